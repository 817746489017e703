/- ABSTRACT MACHINE, part 3: resolved operations, how they come out of the model's, and what they do to abstract states. -/
import Derived.Test.YtbijnfhclfimeaaDoorAm2
namespace Go.Apx
set_option linter.unusedVariables false

inductive Opd where
  | t (n : Nat)
  | c (v : AV)
  | g (n : Nat)

/-- How a variable of a type lies: in one cell, or as an aggregate of n cells. -/
inductive Ty where
  | one
  | agg (n : Nat)
  deriving DecidableEq
def Ty.size : Ty → Nat
  | .one => 1
  | .agg n => n

def Ty.isAgg : Ty → Bool
  | .one => false
  | .agg _ => true

/-- What is sliced. -/
inductive SlK where
  | str
  | sl (k : Nat)
  | arr (n k : Nat)
  deriving DecidableEq

inductive LenK where
  | str
  | sl
  | map
  | arr (n : Nat)
  deriving DecidableEq

/-- What is held against nil. -/
inductive NilK where
  | sl | map | fn | ptr | ifc
  deriving DecidableEq

inductive AOp where
  | mv (x : Opd)
  | pick (c a b : Opd)
  | new (z : List AV)
  | pnew (n : Nat)
  | box (x : Opd)
  | boxm (x : Opd)
  | build (z : List AV) (parts : List (Nat × Nat × Opd))
  | bslice (k len : Nat) (z : AV) (parts : List (Nat × Opd))
  | load (ty : Ty) (x : Opd)
  | store (n : Nat) (a x : Opd)
  | pstore (n d : Nat) (x : Opd)
  | bin (op : BinOp) (x y : Opd)
  | eqb (neq : Bool) (x y : Opd)
  | eqnil (k : NilK) (neq : Bool) (x y : Opd)
  | eqagg (ks : List Nat) (neq : Bool) (x y : Opd)
  | un (op : UnOp) (x : Opd)
  | conv (k : IntKind) (x : Opd)
  | same (x : Opd)
  | mkIface (t : TypeId) (x : Opd)
  | mkFunc (fn : Fn) (first captured : List Opd)
  | mkMap
  | mkSlice (k bytes : Nat) (z : List AV) (len cap : Opd)
  | faddr (off : Nat) (ty : Ty) (x : Opd)
  | field (off : Nat) (ty : Ty) (x : Opd)
  | iaddr (k : Nat) (x i : Opd)
  | iaddrA (n : Nat) (ty : Ty) (x i : Opd)
  | index (n : Nat) (ty : Ty) (x i : Opd)
  | indexS (x i : Opd)
  | lookup (ks : Bool) (z : AV) (ok : Bool) (m k : Opd)
  | mapUpd (ks : Bool) (m k v : Opd)
  | extract (x : Opd) (i : Nat)
  | len (k : LenK) (x : Opd)
  | append (k bytes : Nat) (x y : Opd)
  | copy (k : Nat) (x y : Opd)
  | mx (isMax : Bool) (x y : Opd)
  | slice (k : SlK) (x : Opd) (lo hi mx : Option Opd)
  | tassert (t : TypeId) (z : AV) (ok : Bool) (x : Opd)
  | panic (x : Opd)
  | call (f : Opd) (args : List Opd)
  | defer (f : Opd) (args : List Opd)
  | recover

/-! ## out of the model's operations -/
def ofCell : Value → AV
  | .slice none 0 0 => .sl 0 [] .nil
  | v => .sc v
def ofValue : Value → AV
  | .agg cs => .agg (cs.toList.map ofCell)
  | v => ofCell v
def okConst : Value → Bool
  | .agg cs => cs.toList.all fun c => c.oneCell'
  | v => v.oneCell'

def compOpd : Operand → Option Opd
  | .tmp n => if n < dslot then some (.t n) else none
  | .const v => if okConst v then some (.c (ofValue v)) else none
  | .global n => some (.g n)
  | .func f => some (.c (.fn (.func f) [] []))

def optC : Option Operand → Option (Option Opd)
  | none => some none
  | some x => (compOpd x).map some

def compTy (P : Program) (t : TypeId) : Option Ty :=
  match P.underlying t, P.info? t with
  | some (.struct _), some i | some (.array _ _), some i => some (.agg i.size)
  | some _, some i => if i.size = 1 then some .one else none
  | _, _ => none

def compTyP (P : Program) (t : TypeId) : Option Ty :=
  match compTy P t with
  | some ty => if 0 < ty.size then some ty else none
  | none => none

def compZero (P : Program) (t : TypeId) : Option AV :=
  match P.info? t with
  | some i => match i.zero with
    | some v => if okConst v then some (ofValue v) else none
    | none => none
  | none => none

def mapM' {α β : Type} (f : α → Option β) : List α → Option (List β)
  | [] => some []
  | x :: r => match f x, mapM' f r with
    | some y, some ys => some (y :: ys)
    | _, _ => none

/-- The kinds of types whose values '==' compares as scalars. -/
inductive EqK where
  | basic | bool | nilable (k : NilK) | agg
def eqKind (P : Program) : Nat → TypeId → Option EqK
  | 0, _ => none
  | d + 1, t =>
    match P.underlying t with
    | some (.int _) | some .string => some .basic
    | some .bool => some .bool
    | some (.slice _) => some (.nilable .sl)
    | some (.map _ _) => some (.nilable .map)
    | some (.func _ _ _) => some (.nilable .fn)
    | some (.pointer _) => some (.nilable .ptr)
    | some (.interface _) => some (.nilable .ifc)
    | some (.struct fs) => if P.stoodInHeld t then none else
        if fs.toList.all fun f => f.name != "_" && (match eqKind P d f.type with | some .basic | some .bool | some .agg => true | _ => false) then some .agg else none
    | some (.array n e) => (match eqKind P d e with | some .basic | some .bool | some .agg => some .agg | _ => none)
    | _ => none

/-- Keys: true: strings; false: integers. -/
def keyKind (P : Program) (t : TypeId) : Option Bool :=
  match P.underlying t with
  | some .string => some true
  | some (.int _) => some false
  | _ => none

def isNilConst : Operand → Bool
  | .const .nilIface | .const .nilFunc | .const (.pointer none) | .const (.map none) | .const (.slice none _ _) => true
  | _ => false

/-- Structures whose fields are all integers, strings and booleans, cell by cell. -/
def flatFs (P : Program) : List Field → Nat → Option (List Nat)
  | [], _ => some []
  | f :: r, i => if f.offset = i ∧ f.name ≠ "_" ∧ compTy P f.type = some .one then
      match P.underlying f.type, flatFs P r (i + 1) with
      | some (.int _), some l => some (0 :: l)
      | some .string, some l => some (1 :: l)
      | some .bool, some l => some (2 :: l)
      | _, _ => none
    else none
def flatOf (P : Program) (t : TypeId) : Option (List Nat) :=
  match P.underlying t with
  | some (.struct fs) => if P.stoodInHeld t = false ∧ P.eqGuardType P.depth t = false then flatFs P fs.toList 0 else none
  | _ => none

def compBin (P : Program) (op : BinOp) (t : TypeId) (x y : Operand) : Option AOp :=
  match compOpd x, compOpd y with
  | some x', some y' =>
    match op with
    | .eql | .neq =>
      match eqKind P 10 t with
      | some .basic => some (.bin op x' y')
      | some .bool => some (.eqb (op matches .neq) x' y')
      | some (.nilable k) => if isNilConst x || isNilConst y then some (.eqnil k (op matches .neq) x' y') else none
      | some .agg => (flatOf P t).map fun n => .eqagg n (op matches .neq) x' y'
      | none => none
    | _ => some (.bin op x' y')
  | _, _ => none

def fieldOf (P : Program) (t : TypeId) (f : Nat) : Option (Nat × Ty) :=
  match P.underlying t with
  | some (.struct fields) => match fields[f]? with
    | some fd => match compTy P fd.type with
      | some ty => if 0 < ty.size then some (fd.offset, ty) else none
      | none => none
    | none => none
  | _ => none

def Val.small (bytes : Nat) : Bool := bytes ≤ 4096

def compOp (P : Program) (ann : List Nat) (o : Oper) : Option AOp :=
  match o.op with
  | .move x | .assign x => (compOpd x).map .mv
  | .pick c a b => match compOpd c, compOpd a, compOpd b with | some c, some a, some b => some (.pick c a b) | _, _, _ => none
  | .alloc e => match compZero P e, o.dst with
    | some z, some d => if ann.contains d then some (.pnew z.cells.length) else some (.new z.cells)
    | _, _ => none
  | .box _ x => match compOpd x, o.dst with
    | some x, some d => if ann.contains d then some (.box x) else some (.boxm x)
    | _, _ => none
  | .build t parts => match P.underlying t, compZero P t with
    | some (.struct fields), some z => if !(fields.toList.all fun f => (P.info? f.type).isSome) then none else
      (mapM' (fun (p : Nat × Operand) => match fieldOf P t p.1, compOpd p.2 with | some (off, ty), some x => some (off, ty.size, x) | _, _ => none) parts.toList).map (.build z.cells)
    | some (.array _ elem), some z => match compTy P elem with
      | some ty => (mapM' (fun (p : Nat × Operand) => match compOpd p.2 with | some x => some (p.1 * ty.size, ty.size, x) | _ => none) parts.toList).map (.build z.cells)
      | none => none
    | _, _ => none
  | .buildSlice t len parts => match P.underlying t with
    | some (.slice elem) => match compTy P elem, compZero P elem with
      | some ty, some z => if len * ty.size > 2 ^ 24 ∨ z.cells.length ≠ ty.size ∨ ty.size = 0 then none else
          (mapM' (fun (p : Nat × Operand) => match compOpd p.2 with | some x => some (p.1, x) | _ => none) parts.toList).map (.bslice ty.size len z)
      | _, _ => none
    | _ => none
  | .load t x => match compTy P t, compOpd x with | some ty, some x => some (.load ty x) | _, _ => none
  | .store t a x => match compTy P t, compOpd x with
    | some ty, some x => match compOpd a with
      | some (.t d) => if ann.contains d then some (.pstore ty.size d x) else some (.store ty.size (.t d) x)
      | _ => none
    | _, _ => none
  | .binOp op t x y _ => compBin P op t x y
  | .unOp op _ x => (compOpd x).map (.un op)
  | .convert src dst x => match P.underlying src, P.underlying dst, compOpd x with
    | some (.int _), some (.int k), some x => some (.conv k x)
    | some .string, some .string, some x => some (.same x)
    | _, _, _ => none
  | .makeInterface t x => match P.underlying t, compOpd x with
    | some (.interface _), _ => none
    | some _, some x => some (.mkIface t x)
    | _, _ => none
  | .makeFunc f first captured => match mapM' compOpd first.toList, mapM' compOpd captured.toList with
    | some a, some b => some (.mkFunc f a b)
    | _, _ => none
  | .makeMap _ none => some .mkMap
  | .makeSlice t l c => match P.underlying t with
    | some (.slice elem) => match compTy P elem, compZero P elem, P.info? elem, compOpd l, compOpd c with
      | some ty, some z, some i, some l, some c => if Val.small i.bytes ∧ z.cells.length = ty.size ∧ 0 < ty.size then some (.mkSlice ty.size i.bytes z.cells l c) else none
      | _, _, _, _, _ => none
    | _ => none
  | .slice t x lo hi mx => match compOpd x, optC lo, optC hi, optC mx with
    | some x, some lo, some hi, some mx => match P.underlying t with
      | some .string => some (.slice .str x lo hi mx)
      | some (.slice e) => (compTyP P e).map fun ty => .slice (.sl ty.size) x lo hi mx
      | some (.array n e) => (compTyP P e).map fun ty => .slice (.arr n ty.size) x lo hi mx
      | _ => none
    | _, _, _, _ => none
  | .fieldAddr t x f => match fieldOf P t f, compOpd x with | some (off, ty), some x => some (.faddr off ty x) | _, _ => none
  | .field t x f => match fieldOf P t f, compOpd x with | some (off, ty), some x => some (.field off ty x) | _, _ => none
  | .indexAddr t x i => match P.underlying t, compOpd x, compOpd i with
    | some (.slice e), some x, some i => (compTyP P e).map fun ty => .iaddr ty.size x i
    | some (.array n e), some x, some i => (compTyP P e).map fun ty => .iaddrA n ty x i
    | _, _, _ => none
  | .index t x i => match P.underlying t, compOpd x, compOpd i with
    | some .string, some x, some i => some (.indexS x i)
    | some (.array n e), some x, some i => (compTyP P e).map fun ty => .index n ty x i
    | _, _, _ => none
  | .lookup t m k ok => match P.underlying t, compOpd m, compOpd k with
    | some (.map key e), some m, some k => match keyKind P key, compZero P e with
      | some ks, some z => some (.lookup ks z ok m k)
      | _, _ => none
    | _, _, _ => none
  | .mapUpdate t m k v => match P.underlying t, compOpd m, compOpd k, compOpd v with
    | some (.map key _), some m, some k, some v => match keyKind P key with
      | some ks => some (.mapUpd ks m k v)
      | _ => none
    | _, _, _, _ => none
  | .typeAssert x _ t ok => match P.underlying t, compZero P t, compOpd x with
    | some (.interface _), _, _ => none
    | some _, some z, some x => some (.tassert t z ok x)
    | _, _, _ => none
  | .extract x i => (compOpd x).map (.extract · i)
  | .panic x => (compOpd x).map .panic
  | .call c => match c.callee with
    | .value f => match compOpd f, mapM' compOpd c.args.toList with
      | some f, some args => some (.call f args)
      | _, _ => none
    | .builtin .len => match c.args.toList.map compOpd, c.argTypes.toList with
      | [some x], [t] => match P.underlying t with
        | some .string => some (.len .str x)
        | some (.slice _) => some (.len .sl x)
        | some (.map _ _) => some (.len .map x)
        | some (.array n _) => some (.len (.arr n) x)
        | _ => none
      | _, _ => none
    | .builtin .append => match c.args.toList.map compOpd, c.argTypes.toList with
      | [some x, some y], [t, u] => match P.underlying t, P.underlying u with
        | some (.slice e), some (.slice _) => match compTy P e, P.info? e with
          | some ty, some i => match i.zero with
            | some z => if Val.small i.bytes ∧ 0 < i.bytes ∧ z.cells.size = ty.size ∧ 0 < ty.size then some (.append ty.size i.bytes x y) else none
            | none => none
          | _, _ => none
        | _, _ => none
      | _, _ => none
    | .builtin .copy => match c.args.toList.map compOpd, c.argTypes.toList with
      | [some x, some y], [t, u] => match P.underlying t, P.underlying u with
        | some (.slice e), some (.slice _) => (compTyP P e).map fun ty => .copy ty.size x y
        | _, _ => none
      | _, _ => none
    | .builtin .max => match c.args.toList.map compOpd with | [some x, some y] => some (.mx true x y) | _ => none
    | .builtin .min => match c.args.toList.map compOpd with | [some x, some y] => some (.mx false x y) | _ => none
    | .builtin .recover => some .recover
    | _ => none
  | .defer c => match c.callee with
    | .value f => match compOpd f, mapM' compOpd c.args.toList with
      | some f, some args => some (.defer f args)
      | _, _ => none
    | _ => none
  | _ => none


/-! ## what they do -/
def evalOpd (G : Globs) (env : Env) : Opd → Option AV
  | .t n => match env.get n with
    | some v => if v.isPend = true then none else some v
    | none => none
  | .c v => some v
  | .g n => G n

def cut (cs : List AV) (off n : Nat) : List AV := (cs.drop off).take n

def shiftV (op : BinOp) (k : IntKind) (x y : Int) : Option Value :=
  if y < 0 then none else
  match op with
  | .shl => some (.int k (k.wrap (x * 2 ^ (min y.toNat k.bits))))
  | .shr => some (.int k (x.fdiv (2 ^ (min y.toNat k.bits))))
  | _ => none
def intV (op : BinOp) (k : IntKind) (x y : Int) : Option Value :=
  match op with
  | .add => some (.int k (k.wrap (x + y)))
  | .sub => some (.int k (k.wrap (x - y)))
  | .mul => some (.int k (k.wrap (x * y)))
  | .quo => if y = 0 then none else some (.int k (k.wrap (x.tdiv y)))
  | .rem => if y = 0 then none else some (.int k (x.tmod y))
  | .and => some (.int k (k.wrap (BitVec.ofInt k.bits x &&& BitVec.ofInt k.bits y).toNat))
  | .or => some (.int k (k.wrap (BitVec.ofInt k.bits x ||| BitVec.ofInt k.bits y).toNat))
  | .xor => some (.int k (k.wrap (BitVec.ofInt k.bits x ^^^ BitVec.ofInt k.bits y).toNat))
  | .andNot => some (.int k (k.wrap (BitVec.ofInt k.bits x &&& ~~~ BitVec.ofInt k.bits y).toNat))
  | .eql => some (.bool (x == y))
  | .neq => some (.bool (x != y))
  | .lss => some (.bool (x < y))
  | .leq => some (.bool (x ≤ y))
  | .gtr => some (.bool (x > y))
  | .geq => some (.bool (x ≥ y))
  | _ => none
def strV (op : BinOp) (x y : ByteArray) : Option Value :=
  match op with
  | .add => if ((x.size + y.size : Nat) : Int) > IntKind.i64.max then none else some (.string (x ++ y))
  | .eql => some (.bool (x.toList == y.toList))
  | .neq => some (.bool !(x.toList == y.toList))
  | .lss => some (.bool (Op.bytesLess x.toList y.toList))
  | .leq => some (.bool (Op.bytesLess x.toList y.toList || x.toList == y.toList))
  | .gtr => some (.bool !(Op.bytesLess x.toList y.toList || x.toList == y.toList))
  | .geq => some (.bool !(Op.bytesLess x.toList y.toList))
  | _ => none
def isShift : BinOp → Bool
  | .shl | .shr => true
  | _ => false
def binV (op : BinOp) (x y : Value) : Option Value :=
  match x, y with
  | .int k a, .int k' b => if isShift op then shiftV op k a b else if k = k' then intV op k a b else none
  | .string a, .string b => strV op a b
  | _, _ => none
def unV (op : UnOp) (x : Value) : Option Value :=
  match op, x with
  | .neg, .int k n => some (.int k (k.wrap (0 - n)))
  | .xor, .int k n => some (.int k (k.wrap (BitVec.ofInt k.bits (if k.signed then -1 else k.max) ^^^ BitVec.ofInt k.bits n).toNat))
  | .not, .bool b => some (.bool !b)
  | _, _ => none

def isNilK : NilK → AV → Option Bool
  | .sl, .sl _ _ c => some (c == .nil)
  | .sl, .rf _ _ _ _ _ => some false
  | .map, .sc v => match v with
    | .map none => some true
    | _ => none
  | .map, .mp _ => some false
  | .fn, .sc v => match v with
    | .nilFunc => some true
    | _ => none
  | .fn, .fn _ _ _ => some false
  | .ptr, .sc v => match v with
    | .pointer none => some true
    | _ => none
  | .ptr, .ip _ => some false
  | .ptr, .ptr _ _ _ => some false
  | .ifc, .sc v => match v with
    | .nilIface => some true
    | _ => none
  | .ifc, .ifc _ _ => some false
  | _, _ => none

def cellEq : Nat → AV → AV → Option Bool
  | 0, .sc (.int k a), .sc (.int k' b) => if k = k' then some (a == b) else none
  | 1, .sc (.string a), .sc (.string b) => some (a.toList == b.toList)
  | 2, .sc (.bool a), .sc (.bool b) => some (a == b)
  | _, _, _ => none
def cellsEq : List Nat → List AV → List AV → Option Bool
  | [], [], [] => some true
  | k :: ks, c :: cs, d :: ds => match cellEq k c d, cellsEq ks cs ds with
    | some p, some q => some (p && q)
    | _, _ => none
  | _, _, _ => none

def keyEq : AV → AV → Option Bool
  | .sc (.int k a), .sc (.int k' b) => if k = k' then some (a == b) else none
  | .sc (.string a), .sc (.string b) => some (a == b)
  | _, _ => none
def amapFind (k : AV) : List (AV × AV) → Option (Option AV)
  | [] => some none
  | (k', v) :: r => match keyEq k k' with
    | some true => some (some v)
    | some false => amapFind k r
    | none => none
def amapSet (k v : AV) : List (AV × AV) → Option (List (AV × AV))
  | [] => some [(k, v)]
  | (k', v') :: r => match keyEq k k' with
    | some true => some ((k, v) :: r)
    | some false => (amapSet k v r).map ((k', v') :: ·)
    | none => none
def isKey (ks : Bool) : AV → Bool
  | .sc (.int _ _) => !ks
  | .sc (.string _) => ks
  | _ => false

def fillA (cs : List AV) : List (Nat × Nat × AV) → Option (List AV)
  | [] => some cs
  | (off, n, v) :: r => if v.cells.length = n ∧ off + n ≤ cs.length then fillA (cs.take off ++ v.cells ++ cs.drop (off + n)) r else none
def fillE (k : Nat) (es : List AV) : List (Nat × AV) → Option (List AV)
  | [] => some es
  | (i, v) :: r => if v.cells.length = k ∧ i < es.length then fillE k (es.set i v) r else none

def partOf (ty : Ty) (cs : List AV) (off : Nat) : Option AV :=
  match ty with
  | .one => cs[off]?
  | .agg n => if off + n ≤ cs.length then some (.agg (cut cs off n)) else none

def asNat (v : AV) : Option Nat :=
  match v with
  | .sc (.int _ n) => if 0 ≤ n then some n.toNat else none
  | _ => none

def allOne (cs : List AV) : Bool := cs.all AV.one

/-- The elements of a slice, as they stand. -/
def elems (h : AHeap) (k : Nat) : AV → Option (List AV)
  | .sl k' es _ => if k' = k ∨ es = [] then some es else none
  | _ => none

def maxLenA : Nat := 4294967296

def optNat (d : Nat) : Option (Option AV) → Option Nat
  | none => some d
  | some (some v) => asNat v
  | some none => none

/-- A value that may lie in memory. -/
def oneOpd (G : Globs) (env : Env) (x : Opd) : Option AV :=
  match evalOpd G env x with
  | some v => if allOne v.cells then some v else none
  | none => none

def evalOp (G : Globs) (env : Env) (h : AHeap) : AOp → Option (AV × AHeap)
  | .mv x => (evalOpd G env x).map (·, h)
  | .pick c a b => match evalOpd G env c with
    | some (.sc (.bool t)) => (evalOpd G env (if t then a else b)).map (·, h)
    | _ => none
  | .new z => some (.ptr h.length 0 0, h ++ [.cells 0 z])
  | .pnew _ => none
  | .box x => match evalOpd G env x with
    | some v => if allOne v.cells then some (.ip v, h) else none
    | none => none
  | .boxm x => match evalOpd G env x with
    | some v => if allOne v.cells then some (.ptr h.length 0 0, h ++ [.cells 0 v.cells]) else none
    | none => none
  | .build z parts => match mapM' (fun (p : Nat × Nat × Opd) => (oneOpd G env p.2.2).map fun v => (p.1, p.2.1, v)) parts with
    | some ps => (fillA z ps).map fun cs => (.agg cs, h)
    | none => none
  | .bslice k len z parts => match mapM' (fun (p : Nat × Opd) => (oneOpd G env p.2).map fun v => (p.1, v)) parts with
    | some ps => (fillE k (List.replicate len z) ps).map fun es => (.sl k es .full, h)
    | none => none
  | .load ty x => match evalOpd G env x with
    | some (.ip v) => match ty with
      | .one => if v.one then some (v, h) else none
      | .agg n => match v with
        | .agg cs => if cs.length = n then some (v, h) else none
        | _ => none
    | some (.ptr o g off) => match h[o]? with
      | some (.cells g' cs) => if g' = g then (partOf ty cs off).map (·, h) else none
      | _ => none
    | _ => none
  | .store n a x => match evalOpd G env a, evalOpd G env x with
    | some (.ptr o g off), some v => match h[o]? with
      | some (.cells g' cs) => if g' = g ∧ v.cells.length = n ∧ off + n ≤ cs.length ∧ allOne v.cells = true then
          some (.tup [], h.set o (.cells g (cs.take off ++ v.cells ++ cs.drop (off + n)))) else none
      | _ => none
    | _, _ => none
  | .pstore _ _ _ => none
  | .bin op x y => match evalOpd G env x, evalOpd G env y with
    | some (.sc a), some (.sc b) => (binV op a b).map fun v => (.sc v, h)
    | _, _ => none
  | .eqb neq x y => match evalOpd G env x, evalOpd G env y with
    | some (.sc (.bool a)), some (.sc (.bool b)) => some (.sc (.bool (neq != (a == b))), h)
    | _, _ => none
  | .eqnil k neq x y => match evalOpd G env x, evalOpd G env y with
    | some a, some b => match isNilK k a, isNilK k b with
      | some p, some q => some (.sc (.bool (neq != (p && q))), h)
      | _, _ => none
    | _, _ => none
  | .eqagg ks neq x y => match evalOpd G env x, evalOpd G env y with
    | some (.agg cs), some (.agg ds) => (cellsEq ks cs ds).map fun b => (.sc (.bool (neq != b)), h)
    | _, _ => none
  | .un op x => match evalOpd G env x with
    | some (.sc a) => (unV op a).map fun v => (.sc v, h)
    | _ => none
  | .conv k x => match evalOpd G env x with
    | some (.sc (.int _ n)) => some (.sc (.int k (k.wrap n)), h)
    | _ => none
  | .same x => match evalOpd G env x with
    | some (.sc (.string s)) => some (.sc (.string s), h)
    | _ => none
  | .mkIface t x => (evalOpd G env x).map fun v => (.ifc t v, h)
  | .mkFunc f a b => match mapM' (evalOpd G env) a, mapM' (evalOpd G env) b with
    | some a, some b => some (.fn f a b, h)
    | _, _ => none
  | .mkMap => some (.mp h.length, h ++ [.amap []])
  | .mkSlice k bytes z len cap => match evalOpd G env len, evalOpd G env cap with
    | some (.sc (.int .i64 l)), some (.sc (.int .i64 c)) => if 0 ≤ l ∧ l ≤ c ∧ c ≤ maxLenA then
        some (.rf h.length 0 0 l.toNat (l == c), h ++ [.cells 0 (List.replicate c.toNat z).flatten]) else none
    | _, _ => none
  | .faddr off ty x => match evalOpd G env x with
    | some (.ip (.agg cs)) => (partOf ty cs off).map fun v => (.ip v, h)
    | some (.ptr o g off') => some (.ptr o g (off' + off), h)
    | _ => none
  | .field off ty x => match evalOpd G env x with
    | some (.agg cs) => (partOf ty cs off).map (·, h)
    | _ => none
  | .iaddr k x i => match evalOpd G env x, (evalOpd G env i).bind asNat with
    | some (.sl k' es _), some n => if k' = k then (es[n]?).map fun e => (.ip e, h) else none
    | some (.rf o g off len _), some n => if n < len then some (.ptr o g (off + n * k), h) else none
    | _, _ => none
  | .iaddrA n ty x i => match evalOpd G env x, (evalOpd G env i).bind asNat with
    | some (.ip (.agg cs)), some j => if j < n then (partOf ty cs (j * ty.size)).map fun v => (.ip v, h) else none
    | some (.ptr o g off), some j => if j < n then some (.ptr o g (off + j * ty.size), h) else none
    | _, _ => none
  | .index n ty x i => match evalOpd G env x, (evalOpd G env i).bind asNat with
    | some (.agg cs), some j => if j < n then (partOf ty cs (j * ty.size)).map (·, h) else none
    | _, _ => none
  | .indexS x i => match evalOpd G env x, (evalOpd G env i).bind asNat with
    | some (.sc (.string s)), some j => (s[j]?).map fun b => (.sc (.int .u8 b.toNat), h)
    | _, _ => none
  | .lookup ks z ok m k => match evalOpd G env m, evalOpd G env k with
    | some m, some k => if isKey ks k then
        match (match m with
          | .sc (.map none) => some []
          | .mp o => match h[o]? with | some (.amap es) => some es | _ => none
          | _ => none) with
        | some es => match amapFind k es with
          | some r => some (if ok then .tup [r.getD z, .sc (.bool r.isSome)] else r.getD z, h)
          | none => none
        | none => none
      else none
    | _, _ => none
  | .mapUpd ks m k v => match evalOpd G env m, evalOpd G env k, evalOpd G env v with
    | some (.mp o), some k, some v => if isKey ks k then
        match h[o]? with
        | some (.amap es) => (amapSet k v es).map fun es' => (.tup [], h.set o (.amap es'))
        | _ => none
      else none
    | _, _, _ => none
  | .extract x i => match evalOpd G env x with
    | some (.tup vs) => (vs[i]?).map (·, h)
    | _ => none
  | .len k x => match k, evalOpd G env x with
    | .str, some (.sc (.string s)) => some (.sc (.int .i64 s.size), h)
    | .sl, some (.sl _ es _) => some (.sc (.int .i64 es.length), h)
    | .sl, some (.rf _ _ _ len _) => some (.sc (.int .i64 len), h)
    | .map, some (.sc (.map none)) => some (.sc (.int .i64 0), h)
    | .map, some (.mp o) => match h[o]? with
      | some (.amap es) => some (.sc (.int .i64 es.length), h)
      | _ => none
    | .arr n, some _ => some (.sc (.int .i64 n), h)
    | _, _ => none
  | .append k bytes x y => match evalOpd G env x, (evalOpd G env y).bind (elems h k) with
    | some (.sl k' es c), some xs =>
      if k' = k ∨ es = [] then
        if xs = [] then some (.sl k' es c, h) else
        if es.length + xs.length ≤ maxLenA then
          match c with
          | .nil | .full => some (.sl k (es ++ xs) (.tok h.length), h ++ [.tok (es.length + xs.length)])
          | .tok t => match h[t]? with
            | some (.tok n) => if n = es.length ∧ k' = k then some (.sl k (es ++ xs) (.tok t), h.set t (.tok (es.length + xs.length))) else none
            | _ => none
          | .any => none
        else none
      else none
    | _, _ => none
  | .copy k x y => match evalOpd G env x, (evalOpd G env y).bind (elems h k) with
    | some (.rf o g off len _), some xs => match h[o]? with
      | some (.cells g' cs) =>
        let n := min xs.length len
        if g' = g ∧ off + n * k ≤ cs.length ∧ len ≠ 0 then
          some (.sc (.int .i64 n), h.set o (.cells g (cs.take off ++ (xs.take n).flatMap AV.cells ++ cs.drop (off + n * k)))) else none
      | _ => none
    | _, _ => none
  | .mx isMax x y => match evalOpd G env x, evalOpd G env y with
    | some (.sc (.int k a)), some (.sc (.int k' b)) =>
      if k = k' then some (.sc (.int k (if isMax then (if b > a then b else a) else (if b < a then b else a))), h) else none
    | _, _ => none
  | .slice k x lo hi mx =>
    let lo' := lo.map (evalOpd G env)
    let hi' := hi.map (evalOpd G env)
    let mx' := mx.map (evalOpd G env)
    match k, evalOpd G env x with
    | .str, some (.sc (.string s)) => match mx, optNat 0 lo', optNat s.size hi' with
      | none, some l, some r => if l ≤ r ∧ r ≤ s.size then some (.sc (.string (s.extract l r)), h) else none
      | _, _, _ => none
    | .sl k, some (.sl k' es c) =>
      if k' = k ∨ es = [] then
        match optNat 0 lo', optNat es.length hi' with
        | some l, some r =>
          if l ≤ r ∧ r ≤ es.length then
            match mx with
            | none => some (.sl k (cut es l (r - l)) (if l = 0 ∧ r = es.length ∧ (k' = k ∨ c = .nil) then c else if c = .full ∧ r = es.length then .full else .any), h)
            | some _ => match optNat 0 mx' with
              | some m => if m = r ∧ hi.isSome ∧ c ≠ .nil then some (.sl k (cut es l (r - l)) .full, h) else none
              | none => none
          else none
        | _, _ => none
      else none
    | .sl k, some (.rf o g off len full) => match mx, optNat 0 lo', optNat len hi' with
      | none, some l, some r => if l ≤ r ∧ r ≤ len then some (.rf o g (off + l * k) (r - l) (full && r == len), h) else none
      | _, _, _ => none
    | .arr n k, some (.ptr o g off) => match mx, optNat 0 lo', optNat n hi' with
      | none, some l, some r => if l ≤ r ∧ r ≤ n then some (.rf o g (off + l * k) (r - l) (r == n), h) else none
      | _, _, _ => none
    | _, _ => none
  | .tassert t z ok x => match evalOpd G env x with
    | some (.ifc t' v) => if t' = t then some (if ok then .tup [v, .sc (.bool true)] else v, h) else if ok then some (.tup [z, .sc (.bool false)], h) else none
    | some (.sc .nilIface) => if ok then some (.tup [z, .sc (.bool false)], h) else none
    | _ => none
  | .panic _ => none
  | .call _ _ => none
  | .defer _ _ => none
  | .recover => none

end Go.Apx
