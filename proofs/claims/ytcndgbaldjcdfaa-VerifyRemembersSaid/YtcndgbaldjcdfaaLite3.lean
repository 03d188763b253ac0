/- Lite, part 3: the other operations; a run of a function's code. -/
import Derived.Test.YtcndgbaldjcdfaaLite2
namespace Go.Lite
open Go

def lsliceAt (P : Program) (t : TypeId) (x : Value) (lo hi mx : Option Value) (H : Hp) : Option LRes :=
  match P.underlying t with
  | some (.array n elem) => (addr0 x).bind fun (b, o) => (H.f b).bind fun y => (szT P elem).bind fun sz =>
    (lbound n mx n).bind fun m => (lbound m hi n).bind fun h => (lbound h lo 0).bind fun l =>
    if (mx.isSome && hi.isNone) || sz ≠ y.esz || y.len < o + n * sz || !y.isRow then none else
    some (.val (.slice (some ⟨b, o + l * sz, none⟩) (h - l) (h - l)) H)
  | some _ => lslice P t x lo hi mx H
  | none => none

def lfieldAddr (P : Program) (s : TypeId) (x : Value) (field : Nat) (H : Hp) : Option LRes :=
  match P.underlying s with
  | some (.struct fields) => (addr0 x).bind fun (b, o) => (fields[field]?).bind fun f => (szT P f.type).bind fun n =>
    if n = 0 then none else some (.val (.pointer (some ⟨b, o + f.offset, none⟩)) H)
  | _ => none

def lpart (P : Program) (t : TypeId) (cs : List Value) (off : Nat) : Option Value :=
  (aggT P t).bind fun g => if g then (szT P t).bind fun n => some (.agg ((cs.drop off).take n).toArray) else cs[off]?

def lfield (P : Program) (t : TypeId) (x : Value) (field : Nat) (H : Hp) : Option LRes :=
  match P.underlying t, x with
  | some (.struct fields), .agg cs => (fields[field]?).bind fun f => (lpart P f.type cs.toList f.offset).bind fun v => some (.val v H)
  | _, _ => none

def lindexAddr (P : Program) (t : TypeId) (x ix : Value) (H : Hp) : Option LRes :=
  match P.underlying t, x, ix with
  | some (.array n elem), x, .int _ i => (addr0 x).bind fun (b, o) => (szT P elem).bind fun sz =>
    if 0 ≤ i ∧ i < n then some (.val (.pointer (some ⟨b, o + i.toNat * sz, none⟩)) H) else none
  | some (.slice elem), .slice (some ⟨b, o, none⟩) n _, .int _ i => (szT P elem).bind fun sz =>
    if 0 ≤ i ∧ i < n then some (.val (.pointer (some ⟨b, o + i.toNat * sz, none⟩)) H) else none
  | _, _, _ => none

def lindex (P : Program) (t : TypeId) (x ix : Value) (H : Hp) : Option LRes :=
  match P.underlying t, x, ix with
  | some (.array n elem), .agg cs, .int _ i => (szT P elem).bind fun sz =>
    if 0 ≤ i ∧ i < n then (lpart P elem cs.toList (i.toNat * sz)).bind fun v => some (.val v H) else none
  | some .string, .string s, .int _ i => if 0 ≤ i then (s.data.toList[i.toNat]?).bind fun c => some (.val (.int .u8 c.toNat) H) else none
  | _, _, _ => none

def lassert (P : Program) (x : Value) (asserted : TypeId) (commaOk : Bool) (H : Hp) : Option LRes :=
  match P.underlying asserted, x with
  | some (.interface _), _ => none
  | some _, .iface t v => if t = asserted then some (.val (if commaOk then .tuple #[v, .bool true] else v) H)
      else if commaOk then (lzero P asserted).bind fun z => some (.val (.tuple #[z, .bool false]) H) else none
  | some _, .nilIface => if commaOk then (lzero P asserted).bind fun z => some (.val (.tuple #[z, .bool false]) H) else none
  | _, _ => none

/-- A key of a map: a string, or a whole number. -/
def keyOk (P : Program) (t : TypeId) (k : Value) : Bool :=
  match P.underlying t, k with
  | some .string, .string _ => true
  | some (.int k'), .int k'' _ => k' == k''
  | _, _ => false
/-- Are two keys the same? Strings, and whole numbers of one kind. -/
def sameKey : Value → Value → Option Bool
  | .string a, .string b => some (a.data.toList == b.data.toList)
  | .int k a, .int k' b => if k = k' then some (a == b) else none
  | _, _ => none
def keysOk (k : Value) (es : List (Value × Value)) : Bool := es.all fun p => (sameKey k p.1).isSome
def isKey (k a : Value) : Bool := sameKey k a == some true
def lfind (k : Value) : List (Value × Value) → Option Value
  | [] => none
  | (a, v) :: r => if isKey k a then some v else lfind k r
def lput (k v : Value) : List (Value × Value) → List (Value × Value)
  | [] => [(k, v)]
  | (a, u) :: r => if isKey k a then (k, v) :: r else (a, u) :: lput k v r
def ldel (k : Value) : List (Value × Value) → List (Value × Value)
  | [] => []
  | (a, u) :: r => if isKey k a then r else (a, u) :: ldel k r

def mapAt (H : Hp) (b : Nat) : Option (List (Value × Value)) := match H.f b with | some (.map es) => some es | _ => none

def llookup (P : Program) (t : TypeId) (x k : Value) (commaOk : Bool) (H : Hp) : Option LRes :=
  match P.underlying t, x with
  | some (.map key elem), .map r =>
    if keyOk P key k then
      (match r with | none => some [] | some b => mapAt H b).bind fun es => if !keysOk k es then none else
      match lfind k es with
      | some v => some (.val (if commaOk then .tuple #[v, .bool true] else v) H)
      | none => (lzero P elem).bind fun z => some (.val (if commaOk then .tuple #[z, .bool false] else z) H)
    else none
  | _, _ => none

def lmapUpdate (P : Program) (t : TypeId) (x k v : Value) (H : Hp) : Option LRes :=
  match P.underlying t, x with
  | some (.map key _), .map (some b) => if keyOk P key k then (mapAt H b).bind fun es => if keysOk k es then some (.val undef (H.set b (.map (lput k v es)))) else none else none
  | _, _ => none

def lrange (P : Program) (t : TypeId) (x : Value) (H : Hp) : Option LRes :=
  match P.underlying t, x with
  | some .string, .string s => lnew (fun b => .pointer (some ⟨b, 0, none⟩)) H (.iter s 0)
  | _, _ => none
def lnext (x : Value) (isString : Bool) (H : Hp) : Option LRes :=
  match x, isString with
  | .pointer (some ⟨b, 0, none⟩), true => match H.f b with
    | some (.iter s pos) =>
      if pos < s.size then
        let (c, width) := Utf8.decode s pos
        some (.val (.tuple #[.bool true, .int .i64 pos, .int .i32 c]) (H.set b (.iter s (pos + width))))
      else some (.val (.tuple #[.bool false]) H)
    | _ => none
  | _, _ => none

def llen (P : Program) (t : TypeId) (x : Value) (H : Hp) : Option LRes :=
  match P.underlying t, x with
  | some .string, .string s => some (.val (.int .i64 s.size) H)
  | some (.array n _), _ => some (.val (.int .i64 n) H)
  | some (.pointer a), _ => match P.underlying a with | some (.array n _) => some (.val (.int .i64 n) H) | _ => none
  | some (.slice _), .slice _ n _ => some (.val (.int .i64 n) H)
  | some (.map _ _), .map none => some (.val (.int .i64 0) H)
  | some (.map _ _), .map (some b) => (mapAt H b).bind fun es => some (.val (.int .i64 es.length) H)
  | _, _ => none

/-- What is appended. -/
def appSrc (H : Hp) (esz : Nat) : Value → Option (Nat × List Value)
  | .string s => if esz = 1 then some (s.size, s.data.toList.map fun c => .int .u8 c.toNat) else none
  | .slice a n c => (slCells H esz (.slice a n c)).bind fun l => some (n, l)
  | _ => none

/-- So many noughts. -/
def zeroSrc (P : Program) (t2 : TypeId) (z x : Value) : Option (Nat × List Value) :=
  match P.underlying t2, x with
  | some (.int _), .int _ l => if 0 ≤ l then some (l.toNat, lzeros (cellsOf z) l.toNat) else none
  | _, _ => none

def lappend (P : Program) (ts : List TypeId) (args : List Value) (H : Hp) : Option LRes :=
  match ts, args with
  | [t, t2], [s, x] => match P.underlying t with
    | some (.slice elem) => (P.info? elem).bind fun i => (lzero P elem).bind fun z =>
      (if intOrNone P t2 then zeroSrc P t2 z x else appSrc H i.size x).bind fun (m, news) =>
      match s with
      | .slice a n _ =>
        if 0 < i.size ∧ (cellsOf z).length = i.size ∧ news.all isOne ∧ (n + m) * i.bytes ≤ 140737488355328 ∧ n + m ≤ 4611686018427387904 then
          match a with
          | none => if n = 0 then (if m = 0 then some (.val (.slice none 0 0) H) else lnew (fun b => .slice (some ⟨b, 0, none⟩) m m) H (mkRow P elem i.size news)) else none
          | some ⟨b, o, none⟩ => (H.f b).bind fun y =>
            if y.rw = true ∧ y.esz = i.size ∧ y.len = o + n * i.size then
              match y with
              | .ints _ k xs => (toInts k news).bind fun ys => some (.val (.slice (some ⟨H.n, 0, none⟩) (n + m) (n + m)) (H.move b (.ints true k (xs.drop o ++ ys))))
              | .cells _ e cs => some (.val (.slice (some ⟨H.n, 0, none⟩) (n + m) (n + m)) (H.move b (.cells true e (cs.drop o ++ news))))
              | _ => none
            else none
          | _ => none
        else none
      | _ => none
    | _ => none
  | _, _ => none

def lcopy (P : Program) (ts : List TypeId) (args : List Value) (H : Hp) : Option LRes :=
  match ts, args with
  | t :: _, [d, x] => match P.underlying t, d with
    | some (.slice elem), .slice a n _ => (szT P elem).bind fun sz => (appSrc H sz x).bind fun (m, news) =>
      let k := Nat.min m n
      match a with
      | none => some (.val (.int .i64 k) H)
      | some ⟨b, o, none⟩ => if k = 0 then some (.val (.int .i64 0) H) else (H.f b).bind fun y => (y.setcs o (news.take (k * sz))).bind fun y' => some (.val (.int .i64 k) (H.set b y'))
      | _ => none
    | _, _ => none
  | _, _ => none

def lmin2 : Value → Value → Option Value
  | .int k x, .int _ y => some (.int k (if y < x then y else x))
  | .string x, .string y => some (.string (if (Op.bytesLess x.data.toList y.data.toList || x.data.toList == y.data.toList) = true then x else y))
  | _, _ => none
def lmax2 : Value → Value → Option Value
  | .int k x, .int _ y => some (.int k (if y > x then y else x))
  | .string x, .string y => some (.string (if (!(Op.bytesLess x.data.toList y.data.toList)) = true then x else y))
  | _, _ => none
def lfold (g : Value → Value → Option Value) : Value → List Value → Option Value
  | a, [] => some a
  | a, v :: r => (g a v).bind fun b => lfold g b r
def lmin : List Value → Option Value
  | x :: r => if scal x then lfold lmin2 x r else none
  | _ => none
def lmax : List Value → Option Value
  | x :: r => if scal x then lfold lmax2 x r else none
  | _ => none

def ldelete (P : Program) (ts : List TypeId) (args : List Value) (H : Hp) : Option LRes :=
  match ts, args with
  | t :: _, [.map r, k] => match P.underlying t with
    | some (.map key _) => if keyOk P key k then match r with
      | none => some (.val (.tuple #[]) H)
      | some b => (mapAt H b).bind fun es => if keysOk k es then some (.val (.tuple #[]) (H.set b (.map (ldel k es)))) else none
      else none
    | _ => none
  | _, _ => none

def lbuiltin (P : Program) (b : Builtin) (ts : List TypeId) (args : List Value) (H : Hp) : Option LRes :=
  match b with
  | .len => match ts, args with | t :: _, x :: _ => llen P t x H | _, _ => none
  | .append => lappend P ts args H
  | .copy => lcopy P ts args H
  | .min => (lmin args).bind fun v => some (.val v H)
  | .max => (lmax args).bind fun v => some (.val v H)
  | .delete => ldelete P ts args H
  | _ => none

/-- A method of a value behind an interface: its function. -/
def lmethod (P : Program) (t : TypeId) (name : String) : Option (FuncId) :=
  (P.info? t).bind fun i => (i.methods.toList.find? (·.name == name)).bind fun m =>
    if m.path.isEmpty then m.func.bind fun (g, ptr) => match P.underlying t with
      | some (.pointer _) => if ptr then some g else none
      | some _ => if ptr then none else some g
      | none => none
    else none

def onlyVal : Option LRes → Option LRes
  | some (.val v H) => some (.val v H)
  | _ => none

def lcall (P : Program) (fr : Frame) (c : Call) (H : Hp) : Option LRes :=
  (aos P H fr c.args.toList).bind fun args =>
  match c.callee with
  | .builtin b => onlyVal (lbuiltin P b c.argTypes.toList args H)
  | .value f => (ao P H fr f).bind fun v => match v with
    | .func (.func g) first cap => some (.call g (first.toList ++ args ++ cap.toList) H)
    | _ => none
  | .invoke recv name => (ao P H fr recv).bind fun v => match v with
    | .iface t v => (lmethod P t name).bind fun g => some (.call g (v :: args) H)
    | _ => none

def lnil (v : Value) : Option Value :=
  match v with
  | .pointer none | .nilIface | .nilFunc => none
  | .func (.method _) _ _ => none
  | v => some v

def mapO {α : Type} (g : α → Option Value) : List (Nat × α) → Option (List (Nat × Value))
  | [] => some []
  | (i, x) :: r => (g x).bind fun v => (mapO g r).bind fun l => some ((i, v) :: l)
def optO {α β : Type} (g : α → Option β) : Option α → Option (Option β)
  | none => some none
  | some x => (g x).bind fun v => some (some v)

def lop1 (P : Program) (o : Op) (fr : Frame) (H : Hp) : Option LRes :=
  match o with
  | .move x | .assign x => (ao P H fr x).bind fun v => some (.val v H)
  | .pick c a b => (ao P H fr c).bind fun t => (ao P H fr a).bind fun x => (ao P H fr b).bind fun y => match t with
    | .bool t => some (.val (bif t then x else y) H)
    | _ => none
  | .alloc e => (lzero P e).bind fun z => lnew (fun b => .pointer (some ⟨b, 0, none⟩)) H (.cells true 1 (cellsOf z))
  | .box _ x => (ao P H fr x).bind fun v => lnew (fun b => .pointer (some ⟨b, 0, none⟩)) H (.cells true 1 (cellsOf v))
  | .build t parts => (mapO (ao P H fr) parts.toList).bind fun ps => lbuild P t ps H
  | .buildSlice t n parts => (mapO (ao P H fr) parts.toList).bind fun ps => lbuildSlice P t n ps H
  | .load t a => (ao P H fr a).bind fun v => lload P t v H
  | .store t a x => (ao P H fr a).bind fun v => (ao P H fr x).bind fun u => lstore P t v u H
  | .nilCheck x => (ao P H fr x).bind fun v => (lnil v).bind fun v => some (.val v H)
  | .binOp op t x y _ => (ao P H fr x).bind fun a => (ao P H fr y).bind fun b => (lbin P op t x y a b).bind fun v => some (.val v H)
  | .unOp op _ x => (ao P H fr x).bind fun a => (lun op a).bind fun v => some (.val v H)
  | .convert s d x => (ao P H fr x).bind fun a => lconv P s d a H
  | .makeInterface t x => (ao P H fr x).bind fun v => match P.underlying t with
    | some (.interface _) => none
    | some _ => some (.val (.iface t v) H)
    | none => none
  | .makeFunc fn first cap => (aos P H fr first.toList).bind fun f => (aos P H fr cap.toList).bind fun c => some (.val (.func fn f.toArray c.toArray) H)
  | .makeMap t r => match r with
    | none => lnew (fun b => .map (some b)) H (.map [])
    | some h => (ao P H fr h).bind fun v => match v, P.underlying t with
      | .int _ _, some (.map _ _) => lnew (fun b => .map (some b)) H (.map [])
      | _, _ => none
  | .makeSlice t l c => (ao P H fr l).bind fun a => (ao P H fr c).bind fun b => lmakeSlice P t a b H
  | .slice t x lo hi mx => (ao P H fr x).bind fun v => (optO (ao P H fr) lo).bind fun lo => (optO (ao P H fr) hi).bind fun hi => (optO (ao P H fr) mx).bind fun mx => lsliceAt P t v lo hi mx H
  | .fieldAddr s x f => (ao P H fr x).bind fun v => lfieldAddr P s v f H
  | .field t x f => (ao P H fr x).bind fun v => lfield P t v f H
  | .indexAddr t x ix => (ao P H fr x).bind fun v => (ao P H fr ix).bind fun i => lindexAddr P t v i H
  | .index t x ix => (ao P H fr x).bind fun v => (ao P H fr ix).bind fun i => lindex P t v i H
  | .lookup t x k ok => (ao P H fr x).bind fun v => (ao P H fr k).bind fun i => llookup P t v i ok H
  | .mapUpdate t m k x | .insert t m k x => (ao P H fr m).bind fun v => (ao P H fr k).bind fun i => (ao P H fr x).bind fun u => lmapUpdate P t v i u H
  | .range t x => (ao P H fr x).bind fun v => lrange P t v H
  | .next it s => (ao P H fr it).bind fun v => lnext v s H
  | .typeAssert x _ t ok => (ao P H fr x).bind fun v => lassert P v t ok H
  | .extract t i => (ao P H fr t).bind fun v => match v with
    | .tuple vs => (vs[i]?).bind fun u => some (.val u H)
    | _ => none
  | _ => none

def lop (P : Program) (o : Op) (fr : Frame) (H : Hp) : Option LRes :=
  match o with
  | .call c => lcall P fr c H
  | o => onlyVal (lop1 P o fr H)

/-- How a piece of code ends. -/
inductive AX where
  | normal
  | exit (id : Nat)
  | ret

def putF (fr : Frame) : Option Tmp → Value → Frame
  | some d, v => fr.set d v
  | none, _ => fr

def guardOk (ops : Array Oper) (fr : Frame) (o : Oper) : Bool :=
  match o.guard with
  | none => true
  | some (j, want) => match ((ops[j]?).bind (·.dst)).bind (fr[·]?) with
    | some (.bool b) => b == want
    | _ => false

def evOps (P : Program) (ops : Array Oper) (cf : FuncId → List Value → Hp → Option (Value × Hp)) : List Oper → Frame → Hp → Option (Frame × Hp)
  | [], fr, H => some (fr, H)
  | o :: rest, fr, H =>
    if guardOk ops fr o then
      match lop P o.op fr H with
      | some (.val v H') => evOps P ops cf rest (putF fr o.dst v) H'
      | some (.call f args H') => (cf f args H').bind fun (v, H'') => evOps P ops cf rest (putF fr o.dst v) H''
      | none => none
    else evOps P ops cf rest (putF fr o.dst undef) H

def lresults (P : Program) (fn : Func) (fr : Frame) (H : Hp) : Option Value :=
  let rec go : List ResultVar → Option (List Value)
    | [] => some []
    | .tmp t :: r => (go r).bind fun l => some (fr.getD t undef :: l)
    | .cell a t :: r => match lload P t (fr.getD a undef) H with
      | some (.val v _) => (go r).bind fun l => some (v :: l)
      | _ => none
  (go fn.results.toList).bind fun l => match l with
    | [v] => some v
    | l => some (.tuple l.toArray)

/-- A call, where its body's run is given. -/
def callBy (P : Program) (run : Code → Frame → Hp → Option (AX × Frame × Hp)) (f : FuncId) (args : List Value) (H : Hp) : Option (Value × Hp) :=
  (P.funcs[f]?).bind fun fn => fn.body.bind fun c =>
    match run c (args ++ List.replicate (fn.ntmps - args.length) undef) H with
    | some (.normal, fr, H') | some (.ret, fr, H') => (lresults P fn fr H').bind fun v => some (v, H')
    | _ => none

def ev (P : Program) (over : FuncId → Option (List Value → Hp → Option (Value × Hp))) (dr : Bool) : Nat → Code → Frame → Hp → Option (AX × Frame × Hp)
  | 0, _, _, _ => none
  | k + 1, c, fr, H =>
    match c with
    | .skip => some (.normal, fr, H)
    | .region _ ops draw => if draw && !dr then none else
      (evOps P ops (fun f args H => match over f with | some g => g args H | none => callBy P (ev P over dr k) f args H) ops.toList fr H).bind fun (fr, H) => some (.normal, fr, H)
    | .seq a b => match ev P over dr k a fr H with
      | some (.normal, fr, H) => ev P over dr k b fr H
      | r => r
    | .cond x a b => match ao P H fr x with
      | some (.bool t) => if t then ev P over dr k a fr H else ev P over dr k b fr H
      | _ => none
    | .block id b => match ev P over dr k b fr H with
      | some (.exit j, fr, H) => if j = id then some (.normal, fr, H) else some (.exit j, fr, H)
      | r => r
    | .loop b => match ev P over dr k b fr H with
      | some (.normal, fr, H) => ev P over dr k (.loop b) fr H
      | r => r
    | .exit id => some (.exit id, fr, H)
    | .ret => some (.ret, fr, H)
    | .scope b => ev P over dr k b fr H
    | .label _ => some (.normal, fr, H)
    | _ => none

def evCall (P : Program) (over : FuncId → Option (List Value → Hp → Option (Value × Hp))) (dr : Bool) (k : Nat) (f : FuncId) (args : List Value) (H : Hp) : Option (Value × Hp) :=
  callBy P (ev P over dr k) f args H

end Go.Lite
