/-
  The abstract machine's operations: plain functions on data.
-/
import Derived.Test.YteeffcglpljdpaaDoorAb1
set_option linter.unusedSimpArgs false
set_option linter.unusedVariables false
namespace Go.Ab

inductive COut where
  | ret (v : AV) (h : Hp)
  | pan (x : C1) (h : Hp)

/-- M: functions that are taken as plain functions of their arguments. K: what other calls do. -/
structure Ctx where
  P : Program
  G : Gl
  M : FuncId → Option (List AV → Option AV)
  K : FuncId → List AV → Hp → Option COut

inductive OpR where
  | val (v : AV) (h : Hp)
  | skip (h : Hp)
  | pan (x : C1) (h : Hp)

abbrev AV.d (x : D) : AV := .v (.c (.d x))
abbrev AV.i (n : Int) : AV := .v (.c (.d (.int .i64 n)))
abbrev AV.b (b : Bool) : AV := .v (.c (.d (.bool b)))
abbrev AV.s (l : List UInt8) : AV := .v (.c (.d (.str l)))
abbrev AV.top : AV := .v (.c .top)

def litC : Value → C1
  | .bool b => .d (.bool b)
  | .int k n => .d (.int k n)
  | .string s => .d (.str s.data.toList)
  | .slice none 0 0 => .d (.sl true [])
  | .pointer none => .nilp
  | .nilIface => .nili
  | .map none => .nilm
  | _ => .top

def litV : Value → AV
  | .agg cs => if cs.toList.all Value.oneCell' then .v (.agg (cs.toList.map litC)) else .top
  | v => .v (.c (litC v))

def Ctx.ev (X : Ctx) (s : S) : Operand → AV
  | .tmp t => s.get t
  | .const v => litV v
  | .global g => match X.G.f g with | some xs => .v (.c (.dptr xs)) | none => .top
  | .func f => .v (.c (.fn f []))

/-- The cells of a value, where they are known to be one-cell values. -/
def V.cs : V → Option (List C1)
  | .c .top => none
  | .c x => some [x]
  | .agg xs => some xs

def AV.cs : AV → Option (List C1)
  | .v x => x.cs
  | .tup _ => none

def C1.toD : C1 → Option D
  | .d x => some x
  | .own _ es => some (.sl false es)
  | _ => none

def allD : List C1 → Option (List D)
  | [] => some []
  | x :: r => (x.toD).bind fun d => (allD r).bind fun ds => some (d :: ds)

def Ctx.size (X : Ctx) (t : TypeId) : Option Nat := (X.P.info? t).map (·.size)

def Ctx.isAgg (X : Ctx) (t : TypeId) : Option Bool :=
  (X.P.underlying t).map fun | .struct _ | .array _ _ => true | _ => false

def Ctx.part (X : Ctx) (t : TypeId) (cs : List C1) (off : Nat) : Option V :=
  (X.isAgg t).bind fun ag =>
    if ag then (X.size t).bind fun n => if off + n ≤ cs.length then some (.agg ((cs.drop off).take n)) else none
    else (cs[off]?).map .c

/-- The elements of a slice value. -/
def C1.elems : C1 → Option (List (List D))
  | .d (.sl _ es) => some es
  | .own _ es => some es
  | _ => none

/-- The elements that append appends: of a slice, or the bytes of a string. -/
def C1.source : C1 → Option (List (List D))
  | .d (.sl _ es) => some es
  | .own _ es => some es
  | .d (.str s) => some (s.map fun b => [.int .u8 b.toNat])
  | _ => none

def setAt (cs : List C1) (off : Nat) (xs : List C1) : List C1 := cs.take off ++ (xs ++ cs.drop (off + xs.length))

def fillA (place : Nat → Option (Nat × Nat)) : List C1 → List (Nat × AV) → Option (List C1)
  | cs, [] => some cs
  | cs, (i, v) :: rest => (place i).bind fun p => (v.cs).bind fun xs =>
      if xs.length = p.2 ∧ p.1 + p.2 ≤ cs.length then fillA place (setAt cs p.1 xs) rest else none

def chunk (n : Nat) : Nat → List D → List (List D)
  | 0, _ => []
  | k + 1, l => l.take n :: chunk n k (l.drop n)

def cmpI (op : BinOp) (a b : Int) : Option Bool :=
  match op with
  | .eql => some (a == b)
  | .neq => some (a != b)
  | .lss => some (decide (a < b))
  | .leq => some (decide (a ≤ b))
  | .gtr => some (decide (a > b))
  | .geq => some (decide (a ≥ b))
  | _ => none

def intA (op : BinOp) (k k' : IntKind) (a b : Int) : Option D :=
  match op with
  | .shl => if b < 0 then none else some (.int k (k.wrap (a * 2 ^ (min b.toNat k.bits))))
  | .shr => if b < 0 then none else some (.int k (a.fdiv (2 ^ (min b.toNat k.bits))))
  | .add => if k = k' then some (.int k (k.wrap (a + b))) else none
  | .sub => if k = k' then some (.int k (k.wrap (a - b))) else none
  | .mul => if k = k' then some (.int k (k.wrap (a * b))) else none
  | .quo => if k = k' then (if b = 0 then none else some (.int k (k.wrap (a.tdiv b)))) else none
  | .rem => if k = k' then (if b = 0 then none else some (.int k (a.tmod b))) else none
  | .and | .or | .xor | .andNot => if k = k' then some (.int k (bits op k a b)) else none
  | op => if k = k' then (cmpI op a b).map .bool else none

def strA (op : BinOp) (a b : List UInt8) : Option D :=
  match op with
  | .add => if a.length + b.length ≤ 4611686018427387904 then some (.str (a ++ b)) else none
  | .eql => some (.bool (a == b))
  | .neq => some (.bool (!(a == b)))
  | .lss => some (.bool (Op.bytesLess a b))
  | .leq => some (.bool (Op.bytesLess a b || a == b))
  | .gtr => some (.bool (!(Op.bytesLess a b || a == b)))
  | .geq => some (.bool (!Op.bytesLess a b))
  | _ => none

def boolA (op : BinOp) (a b : Bool) : Option D :=
  match op with
  | .eql => some (.bool (a == b))
  | .neq => some (.bool (!(a == b)))
  | _ => none

def Ctx.binA (X : Ctx) (op : BinOp) (t : TypeId) (x y : AV) : Option D :=
  match x, y with
  | .v (.c (.d (.int k a))), .v (.c (.d (.int k' b))) => intA op k k' a b
  | .v (.c (.d (.str a))), .v (.c (.d (.str b))) => strA op a b
  | .v (.c (.d (.bool a))), .v (.c (.d (.bool b))) => (X.P.underlying t).bind fun | .bool => boolA op a b | _ => none
  | _, _ => none

def unA (op : UnOp) (x : AV) : Option D :=
  match op, x with
  | .not, .v (.c (.d (.bool b))) => some (.bool (!b))
  | .neg, .v (.c (.d (.int k n))) => some (.int k (k.wrap (0 - n)))
  | .xor, .v (.c (.d (.int k n))) => some (.int k (bits .xor k (if k.signed then -1 else k.max) n))
  | _, _ => none

def byteOf : List D → Option UInt8
  | [.int .u8 n] => if 0 ≤ n ∧ n < 256 then some (UInt8.ofNat n.toNat) else none
  | _ => none

def bytesOf : List (List D) → Option (List UInt8)
  | [] => some []
  | e :: r => (byteOf e).bind fun b => (bytesOf r).bind fun l => some (b :: l)

def Ctx.isU8 (X : Ctx) (e : TypeId) : Bool := match X.P.underlying e with | some (.int .u8) => true | _ => false

def Ctx.convA (X : Ctx) (src dst : TypeId) (x : AV) : Option D :=
  (X.P.underlying src).bind fun ds => (X.P.underlying dst).bind fun dd =>
    match dd, x with
    | .int k, .v (.c (.d (.int _ n))) => some (.int k (k.wrap n))
    | .string, .v (.c (.d (.str s))) => some (.str s)
    | .string, .v (.c c) => (match ds with
      | .slice e => if X.isU8 e then (c.elems).bind fun es => (bytesOf es).map .str else none
      | _ => none)
    | .slice e, .v (.c (.d (.str s))) => if X.isU8 e ∧ s.length ≤ 4611686018427387904 then some (.sl false (s.map fun b => [.int .u8 b.toNat])) else none
    | _, _ => none

def intOfA : AV → Option Int
  | .v (.c (.d (.int _ n))) => some n
  | _ => none

def optI (ρ : Operand → AV) : Option Operand → Option (Option Int)
  | none => some none
  | some x => (intOfA (ρ x)).map some

/-- Is the capacity of x[lo:hi:mx] known to be its length? -/
def fullOf (mx : Option Int) (c : C1) (h n : Int) : Bool :=
  match mx with
  | some m => decide (m = h)
  | none => (match c with
    | .d (.sl f _) => f && decide (h = n)
    | _ => false)

/-- x[lo:hi:mx] -/
def Ctx.sliceA (X : Ctx) (t : TypeId) (x : AV) (lo hi mx : Option Int) : Option D :=
  (X.P.underlying t).bind fun dt =>
    match dt, x with
    | .string, .v (.c (.d (.str s))) =>
      let l := lo.getD 0
      let h := hi.getD s.length
      if mx.isNone ∧ 0 ≤ l ∧ l ≤ h ∧ h ≤ s.length then some (.str ((s.drop l.toNat).take (h.toNat - l.toNat))) else none
    | .slice e, .v (.c c) => (c.elems).bind fun es => (X.size e).bind fun z =>
      let l := lo.getD 0
      let h := hi.getD es.length
      if (mx.isNone ∨ hi.isSome) ∧ (∀ m, mx = some m → h ≤ m ∧ m ≤ es.length) ∧ (∀ r ∈ es, r.length = z) ∧ 0 ≤ l ∧ l ≤ h ∧ h ≤ es.length then
        some (.sl (fullOf mx c h es.length) ((es.drop l.toNat).take (h.toNat - l.toNat))) else none
    | _, _ => none

def Ctx.indexAddrA (X : Ctx) (t : TypeId) (x : AV) (i : Int) : Option C1 :=
  (X.P.underlying t).bind fun dt =>
    match dt, x with
    | .slice e, .v (.c c) => (c.elems).bind fun es => (X.size e).bind fun z =>
      if 0 ≤ i then (es[i.toNat]?).bind fun r => if r.length = z then some (.dptr r) else none else none
    | .array n e, .v (.c (.dptr xs)) => (X.size e).bind fun z => if 0 ≤ i ∧ i < n then some (.dptr (xs.drop (i.toNat * z))) else none
    | .array n e, .v (.c (.ptr id off)) => (X.size e).bind fun z => if 0 ≤ i ∧ i < n then some (.ptr id (off + i.toNat * z)) else none
    | _, _ => none

def Ctx.indexA (X : Ctx) (t : TypeId) (x : AV) (i : Int) : Option AV :=
  (X.P.underlying t).bind fun dt =>
    match dt, x with
    | .string, .v (.c (.d (.str s))) => if 0 ≤ i then (s[i.toNat]?).map fun b => .d (.int .u8 b.toNat) else none
    | .array n e, .v (.agg cs) => (X.size e).bind fun z => if 0 ≤ i ∧ i < n then (X.part e cs (i.toNat * z)).map .v else none
    | _, _ => none

def setD (ds : List D) (off : Nat) (xs : List D) : List D := ds.take off ++ (xs ++ ds.drop (off + xs.length))

def Ctx.loadA (X : Ctx) (h : Hp) (t : TypeId) : AV → Option AV
  | .v (.c (.ptr id off)) => match h[id]? with
    | some (.box cs) => (X.part t cs off).map .v
    | _ => none
  | .v (.c (.dptr xs)) => (X.part t (xs.map .d) 0).map .v
  | .v (.c (.bptr id n off)) => match h[id]? with
    | some (.tok m _ (some ds)) => if n = m then (X.part t (ds.map .d) off).map .v else none
    | _ => none
  | _ => none

def Ctx.storeA (X : Ctx) (h : Hp) (t : TypeId) (a v : AV) : Option Hp :=
  match a with
  | .v (.c (.ptr id off)) => match h[id]? with
    | some (.box cs) => (v.cs).bind fun xs => (X.size t).bind fun n => if xs.length = n ∧ off + n ≤ cs.length then some (h.set id (.box (setAt cs off xs))) else none
    | _ => none
  | .v (.c (.bptr id n off)) => match h[id]? with
    | some (.tok m z (some ds)) => (v.cs).bind fun xs => (allD xs).bind fun dx => (X.size t).bind fun k => if n = m ∧ dx.length = k ∧ off + k ≤ ds.length then some (h.set id (.tok m z (some (setD ds off dx)))) else none
    | _ => none
  | _ => none

def Ctx.appendA (X : Ctx) (h : Hp) (t : TypeId) (x y : AV) : Option (AV × Hp) :=
  match X.P.underlying t, x, y with
  | some (.slice e), .v (.c x), .v (.c y) =>
    (X.P.info? e).bind fun i => (y.source).bind fun ys => (i.zero).bind fun zr =>
      if zr.cells.size = i.size ∧ 0 < i.size then
        match x with
        | .own id es => match h[id]? with
          | some (.tok n z none) =>
            if es.length = n ∧ z = i.size ∧ (∀ r ∈ ys, r.length = z) ∧ (es.length + ys.length) * i.bytes ≤ 140737488355328 ∧ es.length + ys.length ≤ 4611686018427387904 then
              some (.v (.c (.own id (es ++ ys))), h.set id (.tok (es.length + ys.length) z none)) else none
          | _ => none
        | .msl id n => match h[id]? with
          | some (.tok m z (some ds)) =>
            if n = m ∧ z = i.size ∧ (∀ r ∈ ys, r.length = z) ∧ (m + ys.length) * i.bytes ≤ 140737488355328 ∧ m + ys.length ≤ 4611686018427387904 then
              some (.v (.c (.msl id (m + ys.length))), h.set id (.tok (m + ys.length) z (some (ds ++ ys.flatten)))) else none
          | _ => none
        | .d (.sl true es) =>
            if (∀ r ∈ es, r.length = i.size) ∧ (∀ r ∈ ys, r.length = i.size) ∧ (es.length + ys.length) * i.bytes ≤ 140737488355328 ∧ es.length + ys.length ≤ 4611686018427387904 then
              (if ys.length = 0 then some (.d (.sl true es), h) else some (.v (.c (.own h.length (es ++ ys))), h ++ [.tok (es.length + ys.length) i.size none])) else none
        | _ => none
      else none
  | _, _, _ => none

def minA (a b : AV) : Option AV :=
  match a, b with
  | .v (.c (.d (.int k x))), .v (.c (.d (.int _ y))) => some (.d (.int k (if y < x then y else x)))
  | _, _ => none
def maxA (a b : AV) : Option AV :=
  match a, b with
  | .v (.c (.d (.int k x))), .v (.c (.d (.int _ y))) => some (.d (.int k (if y > x then y else x)))
  | _, _ => none

def foldO (f : AV → AV → Option AV) : AV → List AV → Option AV
  | a, [] => some a
  | a, b :: r => (f a b).bind fun c => foldO f c r

def Ctx.lenA (X : Ctx) (t : TypeId) (x : AV) : Option AV :=
  (X.P.underlying t).bind fun dt =>
    match dt, x with
    | .string, .v (.c (.d (.str s))) => some (.i s.length)
    | .slice _, .v (.c c) => (c.elems).map fun es => .i es.length
    | .array n _, _ => some (.i n)
    | _, _ => none

/-! Maps, and slices that can still be written. -/

def Ctx.zero (X : Ctx) (t : TypeId) : Option AV := (X.P.info? t).bind fun i => i.zero.map litV


def AV.dv : AV → Option DV
  | .v (.c c) => c.toD.map .c
  | .v (.agg cs) => (allD cs).map .agg
  | .tup _ => none

def DV.V : DV → V
  | .c x => .c (.d x)
  | .agg xs => .agg (xs.map .d)

def isKeyA : TypeDesc → DV → Bool
  | .int k, .c (.int k' _) => k' == k
  | .string, .c (.str _) => true
  | .bool, .c (.bool _) => true
  | _, _ => false

def keyEq : DV → DV → Bool
  | .c (.int _ a), .c (.int _ b) => a == b
  | .c (.str a), .c (.str b) => a == b
  | .c (.bool a), .c (.bool b) => a == b
  | _, _ => false

abbrev MapA := List (Nat × DV × DV)

def findA (k : DV) (es : MapA) : Option Nat := es.findIdx? fun e => keyEq e.2.1 k

def keysOk (d : TypeDesc) (k : DV) (es : MapA) : Bool := isKeyA d k && es.all fun e => isKeyA d e.2.1

def Ctx.mapOf (X : Ctx) (h : Hp) : AV → Option MapA
  | .v (.c .nilm) => some []
  | .v (.c (.mp id)) => match h[id]? with
    | some (.map es _) => some es
    | _ => none
  | _ => none

def Ctx.zeroV (X : Ctx) (t : TypeId) : Option V := (X.zero t).bind fun | .v z => some z | .tup _ => none

def Ctx.mapTy (X : Ctx) (t : TypeId) : Option (TypeDesc × TypeId) := (X.P.underlying t).bind fun | .map k e => (X.P.underlying k).map fun d => (d, e) | _ => none

def pickA (es : MapA) (k : DV) : Option DV := (findA k es).bind fun i => (es[i]?).map fun e => e.2.2

def Ctx.lookupA (X : Ctx) (h : Hp) (t : TypeId) (x i : AV) (ok : Bool) : Option AV :=
  (X.mapTy t).bind fun ty => (X.mapOf h x).bind fun es => (i.dv).bind fun k => (X.zeroV ty.2).bind fun z =>
    if keysOk ty.1 k es then
      let v := match pickA es k with | some v => v.V | none => z
      some (if ok then .tup [v, .c (.d (.bool (findA k es).isSome))] else .v v)
    else none

/-- m[k] = v -/
def putA (es : MapA) (clock : Nat) (k v : DV) : Ob :=
  match findA k es with
  | some i => .map (es.modify i fun e => (e.1, k, v)) clock
  | none => .map (es ++ [(clock, k, v)]) (clock + 1)

def Ctx.updateA (X : Ctx) (h : Hp) (t : TypeId) (x i v : AV) : Option Hp :=
  (X.mapTy t).bind fun ty => match x with
    | .v (.c (.mp id)) => match h[id]? with
      | some (.map es clock) => (i.dv).bind fun k => (v.dv).bind fun y => if keysOk ty.1 k es then some (h.set id (putA es clock k y)) else none
      | _ => none
    | _ => none

/-- The entry of m[k], for an operation on it. -/
def Ctx.entryA (X : Ctx) (h : Hp) (t : TypeId) (x i : AV) : Option (AV × Hp) :=
  (X.mapTy t).bind fun ty => match x with
    | .v (.c (.mp id)) => match h[id]? with
      | some (.map es clock) => (i.dv).bind fun k => if keysOk ty.1 k es then
          (match findA k es with
          | some j => (es[j]?).map fun e => (.tup [e.2.2.V, .c (.d (.int .i64 e.1))], h.set id (.map (es.modify j fun e => (e.1, k, e.2.2)) clock))
          | none => (X.zeroV ty.2).bind fun z => ((AV.v z).dv).map fun y => (.tup [z, .c (.d (.int .i64 clock))], h.set id (.map (es ++ [(clock, k, y)]) (clock + 1))))
        else none
      | _ => none
    | _ => none

def Ctx.entryPutA (X : Ctx) (h : Hp) (x st v : AV) : Option Hp :=
  match x, st with
  | .v (.c (.mp id)), .v (.c (.d (.int _ n))) => match h[id]? with
    | some (.map es clock) => (v.dv).bind fun y => (es.findIdx? fun e => (e.1 : Int) == n).map fun j => h.set id (.map (es.modify j fun e => (e.1, e.2.1, y)) clock)
    | _ => none
  | _, _ => none

def Ctx.deleteA (X : Ctx) (h : Hp) (t : TypeId) (x i : AV) : Option Hp :=
  (X.mapTy t).bind fun ty => match x with
    | .v (.c (.mp id)) => match h[id]? with
      | some (.map es clock) => (i.dv).bind fun k => if keysOk ty.1 k es then
          some (h.set id (.map (match findA k es with | some j => es.eraseIdx j | none => es) clock))
        else none
      | _ => none
    | _ => none

def Ctx.indexAddrM (X : Ctx) (h : Hp) (t : TypeId) (x : AV) (i : Int) : Option C1 :=
  match x with
  | .v (.c (.msl id n)) => match X.P.underlying t, h[id]? with
    | some (.slice e), some (.tok m z (some _)) => if n = m ∧ 0 ≤ i ∧ i < n ∧ X.size e = some z then some (.bptr id n (i.toNat * z)) else none
    | _, _ => none
  | _ => X.indexAddrA t x i

def Ctx.lenM (X : Ctx) (h : Hp) (t : TypeId) (x : AV) : Option AV :=
  match x with
  | .v (.c (.msl id n)) => match X.P.underlying t, h[id]? with
    | some (.slice _), some (.tok m _ _) => if n = m then some (.i n) else none
    | _, _ => none
  | .v (.c (.mp id)) => match X.P.underlying t, h[id]? with
    | some (.map _ _), some (.map es _) => some (.i es.length)
    | _, _ => none
  | _ => X.lenA t x

def Ctx.nextA (X : Ctx) (h : Hp) (x : AV) (str : Bool) : Option (AV × Hp) :=
  match x, str with
  | .v (.c (.it id)), true => match h[id]? with
    | some (.siter s pos) =>
      if pos < s.length then some (.tup [.c (.d (.bool true)), .c (.d (.int .i64 pos)), .c (.d (.int .i32 (Utf8.decode ⟨s.toArray⟩ pos).1))], h.set id (.siter s (pos + (Utf8.decode ⟨s.toArray⟩ pos).2)))
      else some (.tup [.c (.d (.bool false))], h)
    | _ => none
  | _, _ => none

def okSrc (d : Option TypeDesc) (y : AV) : Bool :=
  match d with
  | some .string => (match y with | .v (.c (.d (.str _))) => true | _ => false)
  | some (.slice _) => (match y with | .v (.c (.d (.str _))) => false | _ => true)
  | _ => false

def builtinA (X : Ctx) (h : Hp) (b : Builtin) (ts : List TypeId) (args : List AV) : Option OpR :=
  match b, ts, args with
  | .len, [t], [x] => (X.lenM h t x).map fun v => .val v h
  | .delete, t :: _, [x, i] => (X.deleteA h t x i).map fun h' => .val (.tup []) h'
  | .min, _, x :: r => (foldO minA x r).map fun v => .val v h
  | .max, _, x :: r => (foldO maxA x r).map fun v => .val v h
  | .append, [t, t'], [x, y] => if okSrc (X.P.underlying t') y then (X.appendA h t x y).map fun p => .val p.1 p.2 else none
  | _, _, _ => none

def COut.op : COut → OpR
  | .ret v h => .val v h
  | .pan x h => .pan x h

def callA (X : Ctx) (ρ : Operand → AV) (h : Hp) (c : Call) : Option OpR :=
  match c.callee with
  | .builtin b => builtinA X h b c.argTypes.toList (c.args.toList.map ρ)
  | .value f => match ρ f with
    | .v (.c (.fn f caps)) => match X.M f with
      | some m => (m (c.args.toList.map ρ ++ caps.map fun p => .v (.c (.ptr p.1 p.2)))).map fun v => .val v h
      | none => (X.K f (c.args.toList.map ρ ++ caps.map fun p => .v (.c (.ptr p.1 p.2))) h).map COut.op
    | _ => none
  | .invoke _ _ => none

def Ctx.place (X : Ctx) (t : TypeId) : Option (Nat → Option (Nat × Nat)) :=
  (X.P.underlying t).bind fun
    | .struct fs => (fs.toList.mapM (fun f => (X.P.info? f.type).map fun i => (f.offset, i.size))).map fun places => fun i => places[i]?
    | .array _ e => (X.size e).map fun z => fun i => some (i * z, z)
    | _ => none

def Ctx.buildA (X : Ctx) (t : TypeId) (parts : List (Nat × AV)) : Option AV :=
  (X.place t).bind fun pl => (X.zero t).bind fun z => (z.cs).bind fun cs => (fillA pl cs parts).map fun r => .v (.agg r)

def Ctx.buildSliceA (X : Ctx) (t : TypeId) (len : Nat) (parts : List (Nat × AV)) : Option AV :=
  (X.P.underlying t).bind fun
    | .slice e => (X.size e).bind fun z => (X.zero e).bind fun zr => (zr.cs).bind fun zc =>
      if zc.length = z ∧ 0 < z ∧ len * z ≤ 1048576 then
        (fillA (fun i => some (i * z, z)) ((List.range (len * z)).map fun j => zc.getD (j % z) .top) parts).bind fun cs => (allD cs).map fun ds => .d (.sl true (chunk z len ds))
      else none
    | _ => none

def opR (X : Ctx) (ρ : Operand → AV) (h : Hp) (o : Oper) : Option OpR :=
  match o.op with
  | .move x | .assign x => some (.val (ρ x) h)
  | .pick c a b => match ρ c with
    | .v (.c (.d (.bool t))) => some (.val (if t then ρ a else ρ b) h)
    | _ => none
  | .alloc e => (X.zero e).bind fun z => (z.cs).map fun cs => .val (.v (.c (.ptr h.length 0))) (h ++ [.box cs])
  | .box _ x => ((ρ x).cs).map fun cs => .val (.v (.c (.ptr h.length 0))) (h ++ [.box cs])
  | .build t parts => (X.buildA t (parts.toList.map fun p => (p.1, ρ p.2))).map fun v => .val v h
  | .buildSlice t n parts => (X.buildSliceA t n (parts.toList.map fun p => (p.1, ρ p.2))).map fun v => .val v h
  | .load t a => (X.loadA h t (ρ a)).map fun v => .val v h
  | .store t a x => (X.storeA h t (ρ a) (ρ x)).map fun h' => .skip h'
  | .nilCheck x => match ρ x with
    | .v (.c (.ptr id off)) => some (.val (.v (.c (.ptr id off))) h)
    | .v (.c (.dptr xs)) => some (.val (.v (.c (.dptr xs))) h)
    | .v (.c (.bptr id n off)) => some (.val (.v (.c (.bptr id n off))) h)
    | _ => none
  | .binOp op t x y _ => (X.binA op t (ρ x) (ρ y)).map fun d => .val (.d d) h
  | .unOp op _ x => (unA op (ρ x)).map fun d => .val (.d d) h
  | .convert src dst x => (X.convA src dst (ρ x)).map fun d => .val (.d d) h
  | .makeInterface t x => match X.P.underlying t with
    | some (.interface _) => none
    | some _ => (match ρ x with
      | .v (.c c) => (c.toD).map fun d => .val (.v (.c (.ifc t [d] false))) h
      | .v (.agg cs) => (allD cs).map fun ds => .val (.v (.c (.ifc t ds true))) h
      | _ => none)
    | none => none
  | .slice t x lo hi mx => (optI ρ lo).bind fun l => (optI ρ hi).bind fun u => (optI ρ mx).bind fun m => (X.sliceA t (ρ x) l u m).map fun d => .val (.d d) h
  | .fieldAddr t x f => match X.P.underlying t with
    | some (.struct fs) => (fs[f]?).bind fun fd => (X.size fd.type).bind fun n => if n = 0 then none else match ρ x with
      | .v (.c (.ptr id off)) => some (.val (.v (.c (.ptr id (off + fd.offset)))) h)
      | .v (.c (.dptr xs)) => some (.val (.v (.c (.dptr (xs.drop fd.offset)))) h)
      | .v (.c (.bptr id m off)) => some (.val (.v (.c (.bptr id m (off + fd.offset)))) h)
      | _ => none
    | _ => none
  | .field t x f => match X.P.underlying t with
    | some (.struct fs) => (fs[f]?).bind fun fd => match ρ x with
      | .v (.agg cs) => (X.part fd.type cs fd.offset).map fun v => .val (.v v) h
      | _ => none
    | _ => none
  | .indexAddr t x i => (intOfA (ρ i)).bind fun n => (X.indexAddrM h t (ρ x) n).map fun c => .val (.v (.c c)) h
  | .index t x i => (intOfA (ρ i)).bind fun n => (X.indexA t (ρ x) n).map fun v => .val v h
  | .extract t i => match ρ t with
    | .tup xs => (xs[i]?).map fun x => .val (.v x) h
    | _ => none
  | .call c => callA X ρ h c
  | .makeMap _ none => some (.val (.v (.c (.mp h.length))) (h ++ [.map [] 0]))
  | .lookup t x i ok => (X.lookupA h t (ρ x) (ρ i) ok).map fun v => .val v h
  | .mapUpdate t m k v => (X.updateA h t (ρ m) (ρ k) (ρ v)).map fun h' => .skip h'
  | .mapEntry t m k => (X.entryA h t (ρ m) (ρ k)).map fun p => .val p.1 p.2
  | .entryStore _ m st v => (X.entryPutA h (ρ m) (ρ st) (ρ v)).map fun h' => .skip h'
  | .range t x => match X.P.underlying t, ρ x with
    | some .string, .v (.c (.d (.str s))) => some (.val (.v (.c (.it h.length))) (h ++ [.siter s 0]))
    | _, _ => none
  | .next x str => (X.nextA h (ρ x) str).map fun p => .val p.1 p.2
  | .panic x => match ρ x with
    | .v (.c (.ifc t xs ag)) => some (.pan (.ifc t xs ag) h)
    | _ => none
  | _ => none

def opA (X : Ctx) (s : S) (o : Oper) : Option OpR := opR X (X.ev s) s.h o

inductive Ex where
  | normal
  | exit (id : Nat)
  | ret
  | pan (x : C1)

/-- One operation of a region. -/
def stepA (X : Ctx) (o : Oper) (s : S) : Option (Ex × S) :=
  (opA X s o).map fun
    | .val v h => (.normal, ({ s with h } : S).putO o.dst v)
    | .skip h => (.normal, ({ s with h } : S).putO o.dst .top)
    | .pan x h => (.pan x, { s with h })

/-- Does an operation's guard let it run? -/
def wantA (ops : Array Oper) (o : Oper) (s : S) : Option Bool :=
  match o.guard with
  | none => some true
  | some (j, w) => (((ops[j]?).bind (·.dst)).map s.get).bind fun
    | .v (.c (.d (.bool b))) => some (b == w)
    | .tup [] => some false
    | _ => none

def runOps (X : Ctx) (ops : Array Oper) : List Oper → S → Option (Ex × S)
  | [], s => some (.normal, s)
  | o :: r, s => (wantA ops o s).bind fun w =>
    if w then (stepA X o s).bind fun p => match p.1 with | .normal => runOps X ops r p.2 | e => some (e, p.2)
    else runOps X ops r (s.putO o.dst (.tup []))

end Go.Ab
