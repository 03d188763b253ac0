/- Lite, part 2: what an operation does to abstract values and blocks, and a run of a function's code over them. -/
import Derived.Test.YtcndgbaldjcdfaaLite1
namespace Go.Lite
open Go

abbrev Frame := List Value

def closedV (v : Value) : Bool := (cellsOf v).all scal

def ao (P : Program) (H : Hp) (fr : Frame) : Operand → Option Value
  | .tmp t => some (fr.getD t undef)
  | .const v => if closedV v then some v else none
  | .global g => if g < H.g then some (.pointer (some ⟨g, 0, none⟩)) else none
  | .func f => some (.func (.func f) #[] #[])

def aos (P : Program) (H : Hp) (fr : Frame) : List Operand → Option (List Value)
  | [] => some []
  | x :: r => (ao P H fr x).bind fun v => (aos P H fr r).bind fun vs => some (v :: vs)

/-- What an operation comes to: a value; a call of a function. -/
inductive LRes where
  | val (v : Value) (H : Hp)
  | call (f : FuncId) (args : List Value) (H : Hp)

def aggT (P : Program) (t : TypeId) : Option Bool :=
  match P.underlying t with
  | none => none
  | some (.struct _) | some (.array _ _) => some true
  | some _ => some false
def szT (P : Program) (t : TypeId) : Option Nat := (P.info? t).map (·.size)

def Blk.cell : Blk → Nat → Option Value
  | .cells _ _ cs, k => cs[k]?
  | .ints _ kd xs, k => (xs[k]?).map (.int kd)
  | _, _ => none
def Blk.len : Blk → Nat
  | .cells _ _ cs => cs.length
  | .ints _ _ xs => xs.length
  | _ => 0
/-- Some cells behind one another. -/
def Blk.sub (x : Blk) (o n : Nat) : Option (List Value) :=
  match x with
  | .cells _ _ cs => if o + n ≤ cs.length then some ((cs.drop o).take n) else none
  | .ints _ kd xs => if o + n ≤ xs.length then some (((xs.drop o).take n).map (.int kd)) else none
  | _ => none
def Blk.setc (x : Blk) (o : Nat) (v : Value) : Option Blk :=
  match x with
  | .cells true e cs => if o < cs.length && isOne v then some (.cells true e (cs.set o v)) else none
  | .ints true kd xs => match v with
    | .int k n => if k = kd ∧ o < xs.length then some (.ints true kd (xs.set o n)) else none
    | _ => none
  | _ => none
def Blk.setcs (x : Blk) (o : Nat) : List Value → Option Blk
  | [] => some x
  | v :: r => (x.setc o v).bind fun y => y.setcs (o + 1) r

def addr0 : Value → Option (Nat × Nat)
  | .pointer (some ⟨b, o, none⟩) => some (b, o)
  | _ => none

def toInts (k : IntKind) : List Value → Option (List Int)
  | [] => some []
  | .int k' n :: r => if k' = k then (toInts k r).map (n :: ·) else none
  | _ => none
def intT (P : Program) (t : TypeId) : Option IntKind := match P.underlying t with | some (.int k) => if szT P t = some 1 then some k else none | _ => none
/-- Is it no type that is known, or one of whole numbers? -/
def intOrNone (P : Program) (t : TypeId) : Bool := match P.underlying t with | some (.int _) | none => true | _ => false
def mkRow (P : Program) (elem : TypeId) (esz : Nat) (cs : List Value) : Blk :=
  match intT P elem with
  | some k => match toInts k cs with
    | some xs => .ints true k xs
    | none => .cells true esz cs
  | none => .cells true esz cs

def lnew (v : Nat → Value) (H : Hp) (x : Blk) : Option LRes := some (.val (v H.n) (H.new x))

def lload (P : Program) (t : TypeId) (v : Value) (H : Hp) : Option LRes :=
  (addr0 v).bind fun (b, o) => (H.f b).bind fun x => (aggT P t).bind fun g =>
    if g then (szT P t).bind fun n => (x.sub o n).bind fun cs => some (.val (.agg cs.toArray) H)
    else (x.cell o).bind fun c => some (.val c H)

def lstore (P : Program) (t : TypeId) (a v : Value) (H : Hp) : Option LRes :=
  (addr0 a).bind fun (b, o) => (H.f b).bind fun x => (szT P t).bind fun n =>
    if (cellsOf v).length = n then (x.setcs o (cellsOf v)).bind fun y => some (.val undef (H.set b y)) else none

def lzero (P : Program) (t : TypeId) : Option Value := ((P.info? t).bind (·.zero)).bind fun z => if closedV z then some z else none

/-- Parts of a struct or an array laid into its cells. -/
def lfill (place : Nat → Option (Nat × Nat)) (cells : List Value) : List (Nat × Value) → Option (List Value)
  | [] => some cells
  | (i, v) :: rest => (place i).bind fun (off, size) =>
    if (cellsOf v).length = size ∧ off + size ≤ cells.length then lfill place (cells.take off ++ cellsOf v ++ cells.drop (off + size)) rest else none

def lplaces (P : Program) : List Field → Option (List (Nat × Nat))
  | [] => some []
  | f :: r => (szT P f.type).bind fun n => (lplaces P r).bind fun l => some ((f.offset, n) :: l)

def lbuild (P : Program) (t : TypeId) (parts : List (Nat × Value)) (H : Hp) : Option LRes :=
  (lzero P t).bind fun z =>
    match P.underlying t with
    | some (.struct fields) => (lplaces P fields.toList).bind fun ps => (lfill (fun i => ps[i]?) (cellsOf z) parts).bind fun cs => some (.val (.agg cs.toArray) H)
    | some (.array _ elem) => (szT P elem).bind fun n => (lfill (fun i => some (i * n, n)) (cellsOf z) parts).bind fun cs => some (.val (.agg cs.toArray) H)
    | _ => none

def lzeros (z : List Value) : Nat → List Value
  | 0 => []
  | n + 1 => z ++ lzeros z n

def lbuildSlice (P : Program) (t : TypeId) (len : Nat) (parts : List (Nat × Value)) (H : Hp) : Option LRes :=
  match P.underlying t with
  | some (.slice elem) => (szT P elem).bind fun n => (lzero P elem).bind fun z =>
    if len * n ≤ 16777216 ∧ (cellsOf z).length = n then
      (lfill (fun i => some (i * n, n)) (lzeros (cellsOf z) len) parts).bind fun cs => lnew (fun b => .slice (some ⟨b, 0, none⟩) len len) H (mkRow P elem n cs)
    else none
  | _ => none

/-- The kind of a type. -/
def isBoolT (P : Program) (t : TypeId) : Bool := match P.underlying t with | some .bool => true | _ => false
def isPtrT (P : Program) (t : TypeId) : Bool := match P.underlying t with | some (.pointer _) => true | _ => false
def isSliceT (P : Program) (t : TypeId) : Bool := match P.underlying t with | some (.slice _) => true | _ => false
def isMapT (P : Program) (t : TypeId) : Bool := match P.underlying t with | some (.map _ _) => true | _ => false
def isFuncT (P : Program) (t : TypeId) : Bool := match P.underlying t with | some (.func _ _ _) => true | _ => false
def isIfaceT (P : Program) (t : TypeId) : Bool := match P.underlying t with | some (.interface _) => true | _ => false
def isU8T (P : Program) (t : TypeId) : Bool := match P.underlying t with | some (.int .u8) => true | _ => false

def constNil (x : Operand) : Bool := match x with | .const _ => true | _ => false

/-- Two values held against one another. -/
def leq (P : Program) (t : TypeId) (x y : Operand) (a b : Value) : Option Bool :=
  match a, b with
  | .bool p, .bool q => if isBoolT P t then some (p == q) else none
  | .pointer none, .pointer q => if isPtrT P t then some q.isNone else none
  | .pointer (some _), .pointer none => if isPtrT P t then some false else none
  | .slice none _ _, .slice q _ _ => if isSliceT P t then some q.isNone else none
  | .slice (some _) _ _, .slice none _ _ => if isSliceT P t then some false else none
  | .map none, .map q => if isMapT P t then some q.isNone else none
  | .map (some _), .map none => if isMapT P t then some false else none
  | .nilFunc, .nilFunc => if isFuncT P t then some true else none
  | .nilFunc, .func _ _ _ | .func _ _ _, .nilFunc => if isFuncT P t then some false else none
  | .nilIface, .nilIface => if isIfaceT P t && (constNil x || constNil y) then some true else none
  | .nilIface, .iface _ _ | .iface _ _, .nilIface => if isIfaceT P t then some false else none
  | _, _ => none

def lstr (op : BinOp) (x y : ByteArray) : Option Value :=
  match op with
  | .add => if x.size + y.size ≤ 9223372036854775807 then some (.string ⟨(x.data.toList ++ y.data.toList).toArray⟩) else none
  | .eql => some (.bool (x.data.toList == y.data.toList))
  | .neq => some (.bool (!(x.data.toList == y.data.toList)))
  | .lss => some (.bool (Op.bytesLess x.data.toList y.data.toList))
  | .leq => some (.bool (Op.bytesLess x.data.toList y.data.toList || x.data.toList == y.data.toList))
  | .gtr => some (.bool (!(Op.bytesLess x.data.toList y.data.toList || x.data.toList == y.data.toList)))
  | .geq => some (.bool (!(Op.bytesLess x.data.toList y.data.toList)))
  | _ => none

def lint (op : BinOp) (k : IntKind) (x y : Int) : Option Value :=
  match op with
  | .add => some (.int k (k.wrap (x + y)))
  | .sub => some (.int k (k.wrap (x - y)))
  | .mul => some (.int k (k.wrap (x * y)))
  | .quo => if y = 0 then none else some (.int k (k.wrap (x.tdiv y)))
  | .rem => if y = 0 then none else some (.int k (x.tmod y))
  | .and => some (.int k (k.wrap ((BitVec.ofInt k.bits x &&& BitVec.ofInt k.bits y).toNat)))
  | .or => some (.int k (k.wrap ((BitVec.ofInt k.bits x ||| BitVec.ofInt k.bits y).toNat)))
  | .xor => some (.int k (k.wrap ((BitVec.ofInt k.bits x ^^^ BitVec.ofInt k.bits y).toNat)))
  | .andNot => some (.int k (k.wrap ((BitVec.ofInt k.bits x &&& ~~~ BitVec.ofInt k.bits y).toNat)))
  | .eql => some (.bool (x == y))
  | .neq => some (.bool (x != y))
  | .lss => some (.bool (decide (x < y)))
  | .leq => some (.bool (decide (x ≤ y)))
  | .gtr => some (.bool (decide (x > y)))
  | .geq => some (.bool (decide (x ≥ y)))
  | _ => none

def lbin (P : Program) (op : BinOp) (t : TypeId) (x y : Operand) (a b : Value) : Option Value :=
  match op, a, b with
  | .shl, .int k n, .int _ m => if m < 0 then none else some (.int k (k.wrap (n * 2 ^ (min m.toNat k.bits))))
  | .shr, .int k n, .int _ m => if m < 0 then none else some (.int k (n.fdiv (2 ^ (min m.toNat k.bits))))
  | op, .int k n, .int k' m => if k = k' then lint op k n m else none
  | op, .string p, .string q => lstr op p q
  | .eql, a, b => (leq P t x y a b).bind fun r => some (.bool r)
  | .neq, a, b => (leq P t x y a b).bind fun r => some (.bool (!r))
  | _, _, _ => none

def lun (op : UnOp) (x : Value) : Option Value :=
  match op, x with
  | .neg, .int k n => some (.int k (k.wrap (0 - n)))
  | .xor, .int k n => some (.int k (k.wrap ((BitVec.ofInt k.bits (if k.signed then -1 else k.max) ^^^ BitVec.ofInt k.bits n).toNat)))
  | .not, .bool b => some (.bool !b)
  | _, _ => none

def bytesOf (xs : List Int) : List UInt8 := xs.map fun n => UInt8.ofNat n.toNat

/-- The cells of a slice. -/
def slCells (H : Hp) (esz : Nat) : Value → Option (List Value)
  | .slice none 0 _ => some []
  | .slice (some ⟨b, o, none⟩) n _ => if n = 0 then some [] else (H.f b).bind fun x => if x.esz = esz then x.sub o (n * esz) else none
  | _ => none

def lconv (P : Program) (src dst : TypeId) (x : Value) (H : Hp) : Option LRes :=
  match P.underlying src, P.underlying dst, x with
  | some _, some (.int k), .int _ n => some (.val (.int k (k.wrap n)) H)
  | some _, some .string, .string s => some (.val (.string s) H)
  | some .string, some (.slice e), .string s => if isU8T P e then lnew (fun b => .slice (some ⟨b, 0, none⟩) s.size s.size) H (.ints true .u8 (s.data.toList.map fun c => (c.toNat : Int))) else none
  | some (.slice e), some .string, .slice a n c =>
    if isU8T P e then
      match a with
      | none => some (.val (.string ⟨#[]⟩) H)
      | some ⟨b, o, none⟩ => if n = 0 then some (.val (.string ⟨#[]⟩) H) else
        match H.f b with
        | some (.ints _ .u8 xs) => if o + n ≤ xs.length ∧ c = c then some (.val (.string ⟨(bytesOf ((xs.drop o).take n)).toArray⟩) H) else none
        | _ => none
      | _ => none
    else none
  | _, _, _ => none

def lmakeSlice (P : Program) (t : TypeId) (l c : Value) (H : Hp) : Option LRes :=
  match P.underlying t, l, c with
  | some (.slice elem), .int _ n, .int _ m => (P.info? elem).bind fun i => (lzero P elem).bind fun z =>
    if 0 ≤ n ∧ n ≤ m ∧ m ≤ 9223372036854775807 ∧ i.bytes * m ≤ 281474976710656 ∧ (cellsOf z).length = i.size then
      match intT P elem, z with
      | some k, .int k' v => if k = k' then lnew (fun b => .slice (some ⟨b, 0, none⟩) n.toNat n.toNat) H (.ints true k (List.replicate n.toNat v)) else none
      | _, _ => lnew (fun b => .slice (some ⟨b, 0, none⟩) n.toNat n.toNat) H (.cells true i.size (lzeros (cellsOf z) n.toNat))
    else none
  | _, _, _ => none

def lbound (n : Nat) : Option Value → Nat → Option Nat
  | none, d => some d
  | some (.int _ i), _ => if 0 ≤ i ∧ i ≤ n then some i.toNat else none
  | _, _ => none

def lslice (P : Program) (t : TypeId) (x : Value) (lo hi mx : Option Value) (H : Hp) : Option LRes :=
  match P.underlying t, x with
  | some .string, .string s => if mx.isSome then none else
    (lbound s.size hi s.size).bind fun h => (lbound h lo 0).bind fun l => some (.val (.string ⟨((s.data.toList.drop l).take (h - l)).toArray⟩) H)
  | some (.slice elem), .slice a n c => (lbound n mx n).bind fun m => (lbound (if mx.isSome then m else n) hi n).bind fun h => (lbound h lo 0).bind fun l =>
    if mx.isSome && hi.isNone then none else
    (szT P elem).bind fun sz =>
    match a with
    | none => if c = c then some (.val (.slice none 0 0) H) else none
    | some ⟨b, o, none⟩ => (H.f b).bind fun y => if y.esz = sz ∧ y.isRow = true then some (.val (.slice (some ⟨b, o + l * sz, none⟩) (h - l) (h - l)) H) else none
    | _ => none
  | _, _ => none

end Go.Lite
