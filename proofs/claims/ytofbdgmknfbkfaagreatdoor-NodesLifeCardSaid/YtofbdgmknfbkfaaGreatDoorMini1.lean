/- An interpreter of our own, on abstract values, and the proof that what it says of a call is so in the model (part 1 of 3); under the conditions that its theorems name, and no others. -/
import Derived.Calls
import Derived.Orders
import Derived.Scope
import Derived.Laws.Entries
import Derived.Laws.StructEq
import Derived.Below
import Derived.Tactics
import Derived.Laws.CopyRow
import Derived.Laws.AppendOwn
import Derived.Laws.Append
import Derived.Laws.CopyOwn
/-
  Mini: an abstract interpreter of the model's code, without draws, over a heap of its own. Its soundness (in the texts behind this one): what it computes, every call of the model computes, whatever the tape.
  Own work for this claim. Conditions: none; it is generic over the program.
-/
namespace Go.Mini
open Go

/-- Abstract values: pointers name abstract blocks. 'slice': of a known capacity; 'osl': a row that append made, whose capacity is not known (its element takes 'esz' cells). -/
inductive AV where
  | bool (b : Bool)
  | int (k : IntKind) (n : Int)
  | str (s : ByteArray)
  | nilPtr
  | ptr (b o : Nat)
  | nilSlice
  | slice (b o len cap : Nat)
  | osl (b o len esz : Nat)
  | nilMap
  | map (b : Nat)
  | func (fn : Fn) (first captured : List AV)
  | nilFunc
  | iface (t : TypeId) (v : AV)
  | nilIface
  | agg (cs : List AV)
  | tuple (vs : List AV)
  deriving Inhabited

inductive AObj where
  | cells (ro : Bool) (cs : List AV)
  | map (es : List (AV × AV)) (bn : List Nat) (ck : Nat)
  | dead
  deriving Inhabited

/-- The heap: the newest block first; a block's name is never used again. -/
structure AH where
  bs : List (Nat × AObj)
  len : Nat
  esc : Option Nat
  wr : List Nat

structure AS where
  h : AH
  nx : Nat

def getB : List (Nat × AObj) → Nat → Option AObj
  | [], _ => none
  | x :: t, b => if Nat.beq x.1 b then some x.2 else getB t b
def setB : List (Nat × AObj) → Nat → AObj → List (Nat × AObj)
  | [], _, _ => []
  | x :: t, b, o => if Nat.beq x.1 b then (x.1, o) :: t else x :: setB t b o

def AS.get (s : AS) (b : Nat) : Option AObj := getB s.h.bs b
def AS.set (s : AS) (b : Nat) (o : AObj) : AS := ⟨⟨setB s.h.bs b o, s.h.len, s.h.esc, b :: s.h.wr⟩, s.nx⟩
def AS.push (s : AS) (o : AObj) : AS := ⟨⟨(s.nx, o) :: s.h.bs, s.h.len + 1, s.h.esc, s.h.wr⟩, s.nx + 1⟩

def undefA : AV := .tuple []
def AV.cells : AV → List AV
  | .agg cs => cs
  | v => [v]
def AV.one : AV → Bool
  | .agg _ => false
  | .tuple _ => false
  | _ => true
def tget (ts : List AV) (t : Nat) : AV := ts.getD t undefA

/-- Does a value name a block younger than b? (A heuristic alone: soundness does not ask it.) -/
def AV.young (b : Nat) : AV → Bool
  | .ptr c _ => Nat.ble (b + 1) c
  | .slice c _ _ _ => Nat.ble (b + 1) c
  | .osl c _ _ _ => Nat.ble (b + 1) c
  | .map c => Nat.ble (b + 1) c
  | .func _ f c => f.any (fun v => match v with | .bool _ => false | .int _ _ => false | _ => true) || c.any (fun v => match v with | .bool _ => false | .int _ _ => false | _ => true)
  | .iface _ (.int _ _) => false
  | .iface _ _ => true
  | .agg cs => cs.any (fun v => match v with
    | .ptr c _ => Nat.ble (b + 1) c
    | .slice c _ _ _ => Nat.ble (b + 1) c
    | .osl c _ _ _ => Nat.ble (b + 1) c
    | .map c => Nat.ble (b + 1) c
    | .func _ _ _ => true
    | .iface _ _ => true
    | .agg _ => true
    | .tuple _ => true
    | _ => false)
  | .tuple cs => cs.any (fun v => match v with
    | .ptr c _ => Nat.ble (b + 1) c
    | .slice c _ _ _ => Nat.ble (b + 1) c
    | .osl c _ _ _ => Nat.ble (b + 1) c
    | .map c => Nat.ble (b + 1) c
    | .func _ _ _ => true
    | .iface _ _ => true
    | .agg ds => ds.any (fun v => match v with
      | .ptr c _ => Nat.ble (b + 1) c
      | .slice c _ _ _ => Nat.ble (b + 1) c
      | .osl c _ _ _ => Nat.ble (b + 1) c
      | .map c => Nat.ble (b + 1) c
      | .func _ _ _ => true
      | .iface _ _ => true
      | .agg _ => true
      | .tuple _ => true
      | _ => false)
    | .tuple _ => true
    | _ => false)
  | _ => false

def minE (a b : Option Nat) : Option Nat :=
  match b with
  | none => a
  | some y => match a with
    | none => some y
    | some x => some (if Nat.ble x y then x else y)

/-- A constant of the text. -/
def ofV : Nat → Value → Option AV
  | 0, _ => none
  | n + 1, v => match v with
    | .bool b => some (.bool b)
    | .int k m => some (.int k m)
    | .string s => some (.str s)
    | .pointer none => some .nilPtr
    | .slice none 0 0 => some .nilSlice
    | .map none => some .nilMap
    | .nilFunc => some .nilFunc
    | .nilIface => some .nilIface
    | .iface t v => (ofV n v).map (.iface t)
    | .agg cs => (ofVs n cs.toList).map .agg
    | .tuple cs => (ofVs n cs.toList).map .tuple
    | _ => none
where
  ofVs (n : Nat) : List Value → Option (List AV)
    | [] => some []
    | v :: vs => match ofV n v with
      | some a => match ofVs n vs with
        | some as => some (a :: as)
        | none => none
      | none => none

def evA (P : Program) (ts : List AV) : Operand → Option AV
  | .tmp t => some (tget ts t)
  | .const v => ofV 3 v
  | .global g => if Nat.blt g P.globals.size then some (.ptr g 0) else none
  | .func f => some (.func (.func f) [] [])

def evL (P : Program) (ts : List AV) : List Operand → Option (List AV)
  | [] => some []
  | x :: xs => match evA P ts x with
    | some a => match evL P ts xs with
      | some as => some (a :: as)
      | none => none
    | none => none

section
variable (P : Program)

def isAggA (t : TypeId) : Option Bool :=
  match P.underlying t with
  | some (.struct _) => some true
  | some (.array _ _) => some true
  | some _ => some false
  | none => none
def sizeA (t : TypeId) : Option Nat :=
  match P.info? t with
  | some i => some i.size
  | none => none
def bytesA (t : TypeId) : Option Nat :=
  match P.info? t with
  | some i => some i.bytes
  | none => none
def zeroA (t : TypeId) : Option AV :=
  match P.info? t with
  | some i => match i.zero with
    | some v => ofV 3 v
    | none => none
  | none => none

/-- Just n of a list. -/
def takeN : Nat → List AV → Option (List AV)
  | 0, _ => some []
  | n + 1, x :: t => match takeN n t with
    | some l => some (x :: l)
    | none => none
  | _ + 1, [] => none

def partA (t : TypeId) (cs : List AV) (off : Nat) : Option AV :=
  match isAggA P t with
  | some true => match sizeA P t with
    | some n => match takeN n (cs.drop off) with
      | some l => some (.agg l)
      | none => none
    | none => none
  | some false => cs[off]?
  | none => none

/-- Write a row over another one, from a place on, if it fits. -/
def splice : Nat → List AV → List AV → Option (List AV)
  | 0, [], cs => some cs
  | 0, v :: vs, _ :: cs => match splice 0 vs cs with
    | some l => some (v :: l)
    | none => none
  | 0, _ :: _, [] => none
  | n + 1, vs, x :: cs => match splice n vs cs with
    | some l => some (x :: l)
    | none => none
  | _ + 1, vs, [] => if vs.isEmpty then none else none

def fillA (place : Nat → Option (Nat × Nat)) (cs : List AV) : List (Nat × AV) → Option (List AV)
  | [] => some cs
  | (i, v) :: rest => match place i with
    | none => none
    | some (off, size) =>
      if Nat.beq v.cells.length size then
        match splice off v.cells cs with
        | some cs' => fillA place cs' rest
        | none => none
      else none

def evParts (ts : List AV) : List (Nat × Operand) → Option (List (Nat × AV))
  | [] => some []
  | (i, x) :: xs => match evA P ts x with
    | some a => match evParts ts xs with
      | some as => some ((i, a) :: as)
      | none => none
    | none => none

def placesA : List Field → Option (List (Nat × Nat))
  | [] => some []
  | f :: fs => match sizeA P f.type with
    | some n => match placesA fs with
      | some l => some ((f.offset, n) :: l)
      | none => none
    | none => none

def repeatL : Nat → List AV → List AV
  | 0, _ => []
  | n + 1, z => z ++ repeatL n z

def buildA (t : TypeId) (parts : List (Nat × AV)) : Option AV :=
  match zeroA P t, P.underlying t with
  | some z, some (.struct fields) => match placesA P fields.toList with
    | some places => match fillA (fun i => places[i]?) z.cells parts with
      | some cs => some (.agg cs)
      | none => none
    | none => none
  | some z, some (.array _ elem) => match sizeA P elem with
    | some size => match fillA (fun i => some (i * size, size)) z.cells parts with
      | some cs => some (.agg cs)
      | none => none
    | none => none
  | _, _ => none

/-! ### integers -/
def intOpA (op : BinOp) (k : IntKind) (a b : Int) : Option AV :=
  match op with
  | .add => some (.int k (k.wrap (a + b)))
  | .sub => some (.int k (k.wrap (a - b)))
  | .mul => some (.int k (k.wrap (a * b)))
  | .quo => if b = 0 then none else some (.int k (k.wrap (a.tdiv b)))
  | .rem => if b = 0 then none else some (.int k (a.tmod b))
  | .and => some (.int k (bits .and k a b))
  | .or => some (.int k (bits .or k a b))
  | .xor => some (.int k (bits .xor k a b))
  | .andNot => some (.int k (bits .andNot k a b))
  | .eql => some (.bool (a == b))
  | .neq => some (.bool (a != b))
  | .lss => some (.bool (a < b))
  | .leq => some (.bool (a ≤ b))
  | .gtr => some (.bool (a > b))
  | .geq => some (.bool (a ≥ b))
  | _ => none

def shiftA (op : BinOp) (k : IntKind) (x y : Int) : Option AV :=
  if y < 0 then none else
  match op with
  | .shl => some (.int k (k.wrap (x * 2 ^ (min y.toNat k.bits))))
  | .shr => some (.int k (x.fdiv (2 ^ (min y.toNat k.bits))))
  | _ => none

/-- Operators on two numbers; what is no comparison by == or !=. -/
def arithA (op : BinOp) (x y : AV) : Option AV :=
  match op, x, y with
  | .shl, .int k a, .int _ b => shiftA .shl k a b
  | .shr, .int k a, .int _ b => shiftA .shr k a b
  | op, .int k a, .int k' b => if k = k' then intOpA op k a b else none
  | _, _, _ => none

def unaryA (op : UnOp) (x : AV) : Option AV :=
  match op, x with
  | .neg, .int k n => some (.int k (k.wrap (0 - n)))
  | .xor, .int k n => some (.int k (bits .xor k (if k.signed then -1 else k.max) n))
  | .not, .bool b => some (.bool !b)
  | _, _ => none

def convertA (src dst : TypeId) (x : AV) : Option AV :=
  match P.underlying src, P.underlying dst, x with
  | some _, some (.int k), .int _ n => some (.int k (k.wrap n))
  | some _, some .string, .str s => some (.str s)
  | _, _, _ => none

/-! ### places -/
def fieldAddrA (s : TypeId) (x : AV) (f : Nat) : Option AV :=
  match P.underlying s, x with
  | some (.struct fields), .ptr b o => match fields[f]? with
    | some fd => match sizeA P fd.type with
      | some (_ + 1) => some (.ptr b (o + fd.offset))
      | _ => none
    | none => none
  | _, _ => none

def indexAddrA (t : TypeId) (x i : AV) : Option AV :=
  match i with
  | .int _ n => match P.underlying t, x with
    | some (.array len elem), .ptr b o => match sizeA P elem with
      | some sz => if 0 ≤ n ∧ n < len then some (.ptr b (o + n.toNat * sz)) else none
      | none => none
    | some (.slice elem), .slice b o len _ => match sizeA P elem with
      | some sz => if 0 ≤ n ∧ n < len then some (.ptr b (o + n.toNat * sz)) else none
      | none => none
    | some (.slice elem), .osl b o len _ => match sizeA P elem with
      | some sz => if 0 ≤ n ∧ n < len then some (.ptr b (o + n.toNat * sz)) else none
      | none => none
    | _, _ => none
  | _ => none

def indexA (t : TypeId) (x i : AV) : Option AV :=
  match i with
  | .int _ n => match P.underlying t, x with
    | some (.array len elem), .agg cs => match sizeA P elem with
      | some sz => if 0 ≤ n ∧ n < len then partA P elem cs (n.toNat * sz) else none
      | none => none
    | some .string, .str s => if 0 ≤ n then match s[n.toNat]? with
        | some c => some (.int .u8 c.toNat)
        | none => none
      else none
    | _, _ => none
  | _ => none

def fieldA (t : TypeId) (x : AV) (f : Nat) : Option AV :=
  match P.underlying t, x with
  | some (.struct fields), .agg cs => match fields[f]? with
    | some fd => partA P fd.type cs fd.offset
    | none => none
  | _, _ => none

/-- A bound of a slice expression: none: not given. -/
def boundA (x : Option AV) (d most : Nat) : Option Nat :=
  match x with
  | none => some d
  | some (.int _ n) => if 0 ≤ n ∧ n ≤ most then some n.toNat else none
  | some _ => none

def sliceA (t : TypeId) (x : AV) (lo hi mx : Option AV) : Option AV :=
  match P.underlying t, x with
  | some (.slice elem), .nilSlice =>
    match sizeA P elem with
    | some _ => match boundA mx 0 0 with
      | some m => match boundA hi 0 m with
        | some h => match boundA lo 0 h with
          | some _ => if mx.isSome && hi.isNone then none else some .nilSlice
          | none => none
        | none => none
      | none => none
    | none => none
  | some (.slice elem), .slice b o len cap =>
    match sizeA P elem with
    | some size => match boundA mx cap cap with
      | some m => match boundA hi len m with
        | some h => match boundA lo 0 h with
          | some l => if mx.isSome && hi.isNone then none else some (.slice b (o + l * size) (h - l) (m - l))
          | none => none
        | none => none
      | none => none
    | none => none
  | some (.slice elem), .osl b o len esz =>
    match sizeA P elem, mx with
    | some size, none => if Nat.beq size esz then
        match boundA hi len len with
        | some h => match boundA lo 0 h with
          | some l => some (.osl b (o + l * size) (h - l) esz)
          | none => none
        | none => none
      else none
    | some size, some mv => match boundA (some mv) 0 len, hi with
      | some m, some hv => match boundA (some hv) 0 m with
        | some h => match boundA lo 0 h with
          | some l => some (.slice b (o + l * size) (h - l) (m - l))
          | none => none
        | none => none
      | _, _ => none
    | none, _ => none
  | some (.array n elem), .ptr b o =>
    match sizeA P elem with
    | some size => match boundA mx n n with
      | some m => match boundA hi n m with
        | some h => match boundA lo 0 h with
          | some l => if mx.isSome && hi.isNone then none else some (.slice b (o + l * size) (h - l) (m - l))
          | none => none
        | none => none
      | none => none
    | none => none
  | some (.pointer arr), .ptr b o => match P.underlying arr with
    | some (.array n elem) =>
      match sizeA P elem with
      | some size => match boundA mx n n with
        | some m => match boundA hi n m with
          | some h => match boundA lo 0 h with
            | some l => if mx.isSome && hi.isNone then none else some (.slice b (o + l * size) (h - l) (m - l))
            | none => none
          | none => none
        | none => none
      | none => none
    | _ => none
  | some .string, .str s =>
    if mx.isSome then none else
    match boundA hi s.size s.size with
    | some h => match boundA lo 0 h with
      | some l => some (.str (s.extract l h))
      | none => none
    | none => none
  | _, _ => none
end
section
variable (P : Program)

def noBlank (fs : Array Field) : Bool := fs.toList.all fun f => f.name != "_"

/-- A cells' block of the call's own. -/
def rwAt (s : AS) (b : Nat) : Bool :=
  match s.get b with
  | some (.cells false _) => true
  | _ => false

def eqFields (eq : TypeId → AV → AV → Option Bool) (xs ys : List AV) : List Field → Option Bool
  | [] => some true
  | f :: fs => match partA P f.type xs f.offset, partA P f.type ys f.offset with
    | some a, some b => match eq f.type a b with
      | some true => eqFields eq xs ys fs
      | some false => some false
      | none => none
    | _, _ => none
def eqElems (eq : TypeId → AV → AV → Option Bool) (elem n : Nat) (xs ys : List AV) : Nat → Nat → Option Bool
  | 0, _ => some true
  | k + 1, i => match partA P elem xs (i * n), partA P elem ys (i * n) with
    | some a, some b => match eq elem a b with
      | some true => eqElems eq elem n xs ys k (i + 1)
      | some false => some false
      | none => none
    | _, _ => none
def eqBool (x y : AV) : Option Bool :=
  match x, y with
  | .bool a, .bool b => some (a == b)
  | _, _ => none
def eqInt (x y : AV) : Option Bool :=
  match x, y with
  | .int k a, .int k' b => if k = k' then some (a == b) else none
  | _, _ => none
def eqStr (x y : AV) : Option Bool :=
  match x, y with
  | .str a, .str b => some (a == b)
  | _, _ => none
def eqPtr (s : AS) (e : TypeId) (x y : AV) : Option Bool :=
  match x, y with
  | .nilPtr, .nilPtr => some true
  | .nilPtr, .ptr _ _ => some false
  | .ptr _ _, .nilPtr => some false
  | .ptr b o, .ptr c p => match sizeA P e with
    | some (_ + 1) => if Nat.beq b c then some (Nat.beq o p) else if rwAt s b && rwAt s c then some false else none
    | _ => none
  | _, _ => none
def eqIfc (x y : AV) : Option Bool :=
  match x, y with
  | .nilIface, .nilIface => some true
  | .nilIface, .iface _ _ => some false
  | .iface _ _, .nilIface => some false
  | .iface t _, .iface u _ => if Nat.beq t u then none else some false
  | _, _ => none
def eqSli (x y : AV) : Option Bool :=
  match x, y with
  | .nilSlice, .nilSlice => some true
  | .nilSlice, .slice _ _ _ _ => some false
  | .nilSlice, .osl _ _ _ _ => some false
  | .slice _ _ _ _, .nilSlice => some false
  | .osl _ _ _ _, .nilSlice => some false
  | _, _ => none
def eqMap (x y : AV) : Option Bool :=
  match x, y with
  | .nilMap, .nilMap => some true
  | .nilMap, .map _ => some false
  | .map _, .nilMap => some false
  | _, _ => none
def eqFun (x y : AV) : Option Bool :=
  match x, y with
  | .nilFunc, .nilFunc => some true
  | .nilFunc, .func _ _ _ => some false
  | .func _ _ _, .nilFunc => some false
  | _, _ => none
def aggOf : AV → Option (List AV)
  | .agg cs => some cs
  | _ => none
def eqA (s : AS) : Nat → TypeId → AV → AV → Option Bool
  | 0, _, _, _ => none
  | d + 1, t, x, y =>
    match P.underlying t with
    | some .bool => eqBool x y
    | some (.int _) => eqInt x y
    | some .string => eqStr x y
    | some (.pointer e) => eqPtr P s e x y
    | some (.interface _) => eqIfc x y
    | some (.struct fields) => match aggOf x, aggOf y with
      | some xs, some ys => if P.stoodInHeld t || !noBlank fields then none else eqFields P (eqA s d) xs ys fields.toList
      | _, _ => none
    | some (.array len elem) => match aggOf x, aggOf y with
      | some xs, some ys => match sizeA P elem with
        | some n => eqElems P (eqA s d) elem n xs ys len 0
        | none => none
      | _, _ => none
    | some (.slice _) => eqSli x y
    | some (.map _ _) => eqMap x y
    | some (.func _ _ _) => eqFun x y
    | _ => none

/-- What binOp's guard on nil interfaces wants. -/
def guardA (t : TypeId) (x y : AV) : Bool :=
  match x, y with
  | .agg _, .agg _ => !P.eqGuardType P.depth t
  | .nilIface, .nilIface => false
  | _, _ => true

def eqlA (s : AS) (t : TypeId) (x y : AV) : Option Bool :=
  if guardA P t x y then eqA P s 8 t x y else none
def constO : Operand → Bool
  | .const _ => true
  | _ => false
def nilBoth (a b : AV) : Bool :=
  match a, b with
  | .nilIface, .nilIface => true
  | _, _ => false
/-- Two nil interfaces are one, if one of them is the literal nil. -/
def eqlO (s : AS) (t : TypeId) (x y : Operand) (a b : AV) : Option Bool := if nilBoth a b && (constO x || constO y) then eqA P s 8 t a b else eqlA P s t a b

/-! ### maps -/
/-- A key that is asked of nothing. -/
def keyA : Nat → TypeId → AV → Bool
  | 0, _, _ => false
  | n + 1, t, v => match P.underlying t with
    | some (.interface _) => false
    | some (.array _ _) => false
    | some (.struct fields) => match v with
      | .agg cs => noBlank fields && fields.toList.all fun f => match partA P f.type cs f.offset with
        | some x => keyA n f.type x
        | none => false
      | _ => false
    | some (.int _) => match v with
      | .int _ _ => true
      | _ => false
    | some .bool => match v with
      | .bool _ => true
      | _ => false
    | some .string => match v with
      | .str _ => true
      | _ => false
    | _ => false

/-- Two keys that are one to the bit. -/
def bitEq1 (x y : AV) : Bool :=
  match x, y with
  | .int j a, .int k b => decide (j = k) && (a == b)
  | .bool a, .bool b => a == b
  | .str a, .str b => a == b
  | _, _ => false
def bitEqs : List AV → List AV → Bool
  | [], [] => true
  | x :: xs, y :: ys => bitEq1 x y && bitEqs xs ys
  | _, _ => false
def bitEq (x y : AV) : Bool :=
  match x, y with
  | .agg xs, .agg ys => bitEqs xs ys
  | x, y => bitEq1 x y

def findA (s : AS) (t : TypeId) (k : AV) : List (AV × AV) → Nat → Option (Option (Nat × AV × AV))
  | [], _ => some none
  | e :: es, i => match eqA P s 8 t k e.1 with
    | some true => some (some (i, e.1, e.2))
    | some false => findA s t k es (i + 1)
    | none => none

def mapOf (s : AS) (b : Nat) : Option (List (AV × AV)) :=
  match s.get b with
  | some (.map es _ _) => some es
  | _ => none
def mapAt (s : AS) (b : Nat) : Option (List (AV × AV) × List Nat × Nat) :=
  match s.get b with
  | some (.map es bn ck) => some (es, bn, ck)
  | _ => none

def lookupA (s : AS) (t : TypeId) (m k : AV) (ok : Bool) : Option AV :=
  match P.underlying t with
  | some (.map kt et) =>
    if keyA P 4 kt k then
      match m with
      | .nilMap => match zeroA P et with
        | some z => some (if ok then .tuple [z, .bool false] else z)
        | none => none
      | .map b => match mapOf s b with
        | some es => match findA P s kt k es 0 with
          | some (some (_, _, v)) => some (if ok then .tuple [v, .bool true] else v)
          | some none => match zeroA P et with
            | some z => some (if ok then .tuple [z, .bool false] else z)
            | none => none
          | none => none
        | none => none
      | _ => none
    else none
  | _ => none

def setAt : List (AV × AV) → Nat → AV × AV → List (AV × AV)
  | [], _, _ => []
  | _ :: t, 0, v => v :: t
  | x :: t, n + 1, v => x :: setAt t n v
def eraseAt : List (AV × AV) → Nat → List (AV × AV)
  | [], _ => []
  | _ :: t, 0 => t
  | x :: t, n + 1 => x :: eraseAt t n

def noteEsc (s : AS) (b : Nat) (young : Bool) : AS :=
  if young then ⟨⟨s.h.bs, s.h.len, minE s.h.esc (some b), s.h.wr⟩, s.nx⟩ else s

def updateA (s : AS) (t : TypeId) (m k v : AV) : Option AS :=
  match P.underlying t, m with
  | some (.map kt _), .map b =>
    if keyA P 4 kt k then
      match mapAt s b with
      | some (es, bn, ck) => match findA P s kt k es 0 with
        | some (some (i, old, _)) => if !bitEq old k then none else some (noteEsc (s.set b (.map (setAt es i (k, v)) bn ck)) b (v.young b))
        | some none => some (noteEsc (s.set b (.map (es ++ [(k, v)]) (bn ++ [ck]) (ck + 1))) b (v.young b))
        | none => none
      | none => none
    else none
  | _, _ => none

/-- An entry of a map, for a store to come: its value, and its stamp. -/
def entryA (s : AS) (t : TypeId) (m k : AV) : Option (AV × Nat × AS) :=
  match P.underlying t, m with
  | some (.map kt et), .map b =>
    if keyA P 4 kt k then
      match mapAt s b with
      | some (es, bn, ck) => match findA P s kt k es 0 with
        | some (some (i, old, v)) => if !bitEq old k then none else match bn[i]? with
          | some n => some (v, n, s.set b (.map (setAt es i (k, v)) bn ck))
          | none => none
        | some none => match zeroA P et with
          | some z => some (z, ck, s.set b (.map (es ++ [(k, z)]) (bn ++ [ck]) (ck + 1)))
          | none => none
        | none => none
      | none => none
    else none
  | _, _ => none
def stampAt (n : Nat) : List Nat → Nat → Option Nat
  | [], _ => none
  | x :: l, i => if Nat.beq x n then some i else stampAt n l (i + 1)
def entryStoreA (s : AS) (m st v : AV) : Option AS :=
  match m, st with
  | .map b, .int _ (.ofNat n) => match mapAt s b with
    | some (es, bn, ck) => match stampAt n bn 0 with
      | some i => match es[i]? with
        | some (k, _) => some (noteEsc (s.set b (.map (setAt es i (k, v)) bn ck)) b (v.young b))
        | none => none
      | none => none
    | none => none
  | _, _ => none

def deleteA (s : AS) (t : TypeId) (m k : AV) : Option AS :=
  match P.underlying t, m with
  | some (.map kt _), .nilMap => if keyA P 4 kt k then some s else none
  | some (.map kt _), .map b =>
    if keyA P 4 kt k then
      match mapAt s b with
      | some (es, bn, ck) => match findA P s kt k es 0 with
        | some (some (i, _, _)) => some (s.set b (.map (eraseAt es i) (bn.eraseIdx i) ck))
        | some none => some s
        | none => none
      | none => none
    else none
  | _, _ => none

/-! ### cells -/
def readA (s : AS) (b o n : Nat) : Option (List AV) :=
  match s.get b with
  | some (.cells _ cs) => takeN n (cs.drop o)
  | _ => none
def loadA (s : AS) (t : TypeId) (a : AV) : Option AV :=
  match a with
  | .ptr b o => match isAggA P t with
    | some true => match sizeA P t with
      | some n => match readA s b o n with
        | some l => some (.agg l)
        | none => none
      | none => none
    | some false => match s.get b with
      | some (.cells _ cs) => cs[o]?
      | _ => none
    | none => none
  | _ => none
def writeA (s : AS) (b o : Nat) (vs : List AV) : Option AS :=
  match s.get b with
  | some (.cells false cs) =>
    if vs.all AV.one then
      match splice o vs cs with
      | some cs' => some (noteEsc (s.set b (.cells false cs')) b (vs.any (AV.young b)))
      | none => none
    else none
  | _ => none
def storeA (s : AS) (t : TypeId) (a v : AV) : Option AS :=
  match a with
  | .ptr b o => match sizeA P t with
    | some n => if Nat.beq v.cells.length n then writeA s b o v.cells else none
    | none => none
  | _ => none

/-! ### builtins -/
def lenA (s : AS) (t : TypeId) (x : AV) : Option AV :=
  match P.underlying t, x with
  | some .string, .str b => some (.int .i64 b.size)
  | some (.array n _), _ => some (.int .i64 n)
  | some (.pointer arr), _ => match P.underlying arr with
    | some (.array n _) => some (.int .i64 n)
    | _ => none
  | some (.slice _), .nilSlice => some (.int .i64 0)
  | some (.slice _), .slice _ _ n _ => some (.int .i64 n)
  | some (.slice _), .osl _ _ n _ => some (.int .i64 n)
  | some (.map _ _), .nilMap => some (.int .i64 0)
  | some (.map _ _), .map b => match mapOf s b with
    | some es => some (.int .i64 es.length)
    | none => none
  | _, _ => none
def capA (t : TypeId) (x : AV) : Option AV :=
  match P.underlying t, x with
  | some (.array n _), _ => some (.int .i64 n)
  | some (.slice _), .nilSlice => some (.int .i64 0)
  | some (.slice _), .slice _ _ _ c => some (.int .i64 c)
  | _, _ => none
def maxFrom (k : IntKind) : Int → List AV → Option AV
  | x, [] => some (.int k x)
  | x, v :: t => match v with
    | .int k' y => if k = k' then maxFrom k (if y > x then y else x) t else none
    | _ => none
def maxs : List AV → Option AV
  | .int k x :: t => maxFrom k x t
  | _ => none
def minFrom (k : IntKind) : Int → List AV → Option AV
  | x, [] => some (.int k x)
  | x, v :: t => match v with
    | .int k' y => if k = k' then minFrom k (if y < x then y else x) t else none
    | _ => none
def mins : List AV → Option AV
  | .int k x :: t => minFrom k x t
  | _ => none

/-- The cells of n elements of what is appended, or copied. -/
def firstA (s : AS) (size n : Nat) (x : AV) : Option (List AV) :=
  match x with
  | .nilSlice => some []
  | .slice b o _ _ => readA s b o (n * size)
  | .osl b o _ _ => readA s b o (n * size)
  | _ => none
def sliceLen : AV → Option Nat
  | .nilSlice => some 0
  | .slice _ _ n _ => some n
  | .osl _ _ n _ => some n
  | _ => none
def small (n : Nat) : Bool := Nat.ble n 16777216

/-- Append: in place where the capacity is known and there is room; else a new row, of a capacity that is not known. What a row of unknown capacity is appended to, its block is dead. -/
def appendA (s : AS) (t t2 : TypeId) (x y : AV) : Option (AV × AS) :=
  match P.underlying t with
  | some (.slice elem) => match P.underlying t2 with
   | some (.slice _) => match P.info? elem with
    | some i => match i.size, i.zero, sliceLen y with
      | size + 1, some z, some n =>
        if !(Nat.ble i.bytes 4096 && Nat.beq z.cells.size (size + 1)) then none else
        match firstA s (size + 1) n y with
        | some new =>
          if !(new.all AV.one) then none else
          match x with
          | .nilSlice => if Nat.beq n 0 then some (.nilSlice, s) else
            if small n then some (.osl s.nx 0 n (size + 1), s.push (.cells false new)) else none
          | .slice b o len cap =>
            if Nat.ble (len + n) cap then
              if Nat.beq n 0 then some (.slice b o len cap, s) else
              match writeA s b (o + len * (size + 1)) new with
              | some s' => some (.slice b o (len + n) cap, s')
              | none => none
            else if small (len + n) then
              match readA s b o (len * (size + 1)) with
              | some old => if old.all AV.one then some (.osl s.nx 0 (len + n) (size + 1), s.push (.cells false (old ++ new))) else none
              | none => none
            else none
          | .osl b o len esz =>
            if !(Nat.beq esz (size + 1)) then none else
            if Nat.beq n 0 then some (.osl b o len esz, s) else
            if small (len + n) && rwAt s b then
              match readA s b o (len * (size + 1)) with
              | some old => if old.all AV.one then some (.osl s.nx 0 (len + n) (size + 1), (s.set b .dead).push (.cells false (old ++ new))) else none
              | none => none
            else none
          | _ => none
        | none => none
      | _, _, _ => none
    | none => none
   | _ => none
  | _ => none

def copyA (s : AS) (t : TypeId) (x y : AV) : Option (AV × AS) :=
  match P.underlying t with
  | some (.slice elem) => match sizeA P elem, sliceLen x, sliceLen y with
    | some size, some dl, some sl =>
      match firstA s size (Nat.min sl dl) y with
      | some new => match x with
        | .nilSlice => some (.int .i64 (Nat.min sl dl), s)
        | .slice b o _ cap => if Nat.beq cap 0 then some (.int .i64 (Nat.min sl dl), s) else match writeA s b o new with
          | some s' => some (.int .i64 (Nat.min sl dl), s')
          | none => none
        | .osl b o _ _ => match writeA s b o new with
          | some s' => some (.int .i64 (Nat.min sl dl), s')
          | none => none
        | _ => none
      | none => none
    | _, _, _ => none
  | _ => none
end

/-! ### equality of abstract values, to the bit -/
mutual
def AV.beq : AV → AV → Bool
  | .bool a, y => match y with
    | .bool b => a == b
    | _ => false
  | .int j a, y => match y with
    | .int k b => decide (j = k) && (a == b)
    | _ => false
  | .str a, y => match y with
    | .str b => a == b
    | _ => false
  | .nilPtr, y => match y with
    | .nilPtr => true
    | _ => false
  | .ptr a b, y => match y with
    | .ptr c d => Nat.beq a c && Nat.beq b d
    | _ => false
  | .nilSlice, y => match y with
    | .nilSlice => true
    | _ => false
  | .slice a b c d, y => match y with
    | .slice a' b' c' d' => Nat.beq a a' && Nat.beq b b' && Nat.beq c c' && Nat.beq d d'
    | _ => false
  | .osl a b c d, y => match y with
    | .osl a' b' c' d' => Nat.beq a a' && Nat.beq b b' && Nat.beq c c' && Nat.beq d d'
    | _ => false
  | .nilMap, y => match y with
    | .nilMap => true
    | _ => false
  | .map a, y => match y with
    | .map b => Nat.beq a b
    | _ => false
  | .func f a b, y => match y with
    | .func g c d => decide (f = g) && AV.beqs a c && AV.beqs b d
    | _ => false
  | .nilFunc, y => match y with
    | .nilFunc => true
    | _ => false
  | .iface t a, y => match y with
    | .iface u b => Nat.beq t u && AV.beq a b
    | _ => false
  | .nilIface, y => match y with
    | .nilIface => true
    | _ => false
  | .agg a, y => match y with
    | .agg b => AV.beqs a b
    | _ => false
  | .tuple a, y => match y with
    | .tuple b => AV.beqs a b
    | _ => false
def AV.beqs : List AV → List AV → Bool
  | [], ys => ys.isEmpty
  | x :: xs, ys => match ys with
    | [] => false
    | y :: ys => AV.beq x y && AV.beqs xs ys
end

inductive K where
  | P | R | A | E | X
  deriving DecidableEq

def kindOf : Op → K
  | .move _ | .assign _ | .pick .. | .build .. | .nilCheck _ | .unOp .. | .convert .. | .makeInterface .. | .makeFunc .. | .slice .. | .fieldAddr ..
  | .field .. | .indexAddr .. | .index .. | .typeAssert .. | .extract .. => .P
  | .binOp op .. => match op with
    | .eql => .R
    | .neq => .R
    | _ => .P
  | .load .. | .lookup .. => .R
  | .alloc _ | .box .. | .buildSlice .. | .makeMap .. | .makeSlice .. => .A
  | .call c => match c.callee with
    | .builtin .len => .R
    | .builtin .cap => .P
    | .builtin .min => .P
    | .builtin .max => .P
    | _ => .E
  | .store .. | .mapUpdate .. | .insert .. | .mapEntry .. | .entryStore .. => .E
  | _ => .X

section
variable (P : Program)

def typeAssertA (x : AV) (asserted : TypeId) (ok : Bool) : Option AV :=
  match P.underlying asserted with
  | some (.interface _) => none
  | some _ => match x with
    | .nilIface => if ok then match zeroA P asserted with
        | some z => some (.tuple [z, .bool false])
        | none => none
      else none
    | .iface t v => if Nat.beq t asserted then some (if ok then .tuple [v, .bool true] else v)
      else if ok then match zeroA P asserted with
        | some z => some (.tuple [z, .bool false])
        | none => none
      else none
    | _ => none
  | none => none

def optA (ts : List AV) (x : Option Operand) : Option (Option AV) :=
  match x with
  | none => some none
  | some y => match evA P ts y with
    | some v => some (some v)
    | none => none

/-- An operation that makes no block and turns nothing: its value. -/
def valA (ts : List AV) (s : AS) (op : Op) : Option AV :=
  match op with
  | .move x => evA P ts x
  | .assign x => evA P ts x
  | .pick c a b => match evA P ts c with
    | some (.bool true) => evA P ts a
    | some (.bool false) => evA P ts b
    | _ => none
  | .build t parts => match evParts P ts parts.toList with
    | some l => buildA P t l
    | none => none
  | .nilCheck x => match evA P ts x with
    | some (.ptr b o) => some (.ptr b o)
    | some (.func (.func f) a c) => some (.func (.func f) a c)
    | some (.slice a b c d) => some (.slice a b c d)
    | some (.osl a b c d) => some (.osl a b c d)
    | some (.iface t v) => some (.iface t v)
    | some (.map b) => some (.map b)
    | _ => none
  | .binOp op t x y _ => match evA P ts x, evA P ts y with
    | some a, some b => match op with
      | .eql => match a, b with
        | .int k m, .int k' n => if k = k' then some (.bool (m == n)) else none
        | .str m, .str n => some (.bool (m == n))
        | a, b => match eqlO P s t x y a b with
          | some r => some (.bool r)
          | none => none
      | .neq => match a, b with
        | .int k m, .int k' n => if k = k' then some (.bool (m != n)) else none
        | .str m, .str n => some (.bool (m != n))
        | a, b => match eqlO P s t x y a b with
          | some r => some (.bool !r)
          | none => none
      | op => arithA op a b
    | _, _ => none
  | .unOp op _ x => match evA P ts x with
    | some a => unaryA op a
    | none => none
  | .convert src dst x => match evA P ts x with
    | some a => convertA P src dst a
    | none => none
  | .makeInterface t x => match evA P ts x, P.underlying t with
    | some _, some (.interface _) => none
    | some a, some _ => some (.iface t a)
    | _, _ => none
  | .makeFunc fn first captured => match evL P ts first.toList, evL P ts captured.toList with
    | some a, some b => some (.func fn a b)
    | _, _ => none
  | .slice t x lo hi mx => match evA P ts x, optA P ts lo, optA P ts hi, optA P ts mx with
    | some a, some l, some h, some m => sliceA P t a l h m
    | _, _, _, _ => none
  | .fieldAddr t x f => match evA P ts x with
    | some a => fieldAddrA P t a f
    | none => none
  | .field t x f => match evA P ts x with
    | some a => fieldA P t a f
    | none => none
  | .indexAddr t x i => match evA P ts x, evA P ts i with
    | some a, some b => indexAddrA P t a b
    | _, _ => none
  | .index t x i => match evA P ts x, evA P ts i with
    | some a, some b => indexA P t a b
    | _, _ => none
  | .typeAssert x _ asserted ok => match evA P ts x with
    | some a => typeAssertA P a asserted ok
    | none => none
  | .extract x i => match evA P ts x with
    | some (.tuple vs) => if Nat.beq vs.length 1 then none else vs[i]?
    | _ => none
  | .load t a => match evA P ts a with
    | some p => loadA P s t p
    | none => none
  | .lookup t m k ok => match evA P ts m, evA P ts k with
    | some a, some b => lookupA P s t a b ok
    | _, _ => none
  | .call c => match c.callee with
    | .builtin .len => match c.args.toList, c.argTypes.toList with
      | [x], t :: _ => match evA P ts x with
        | some a => lenA P s t a
        | none => none
      | _, _ => none
    | .builtin .cap => match c.args.toList, c.argTypes.toList with
      | [x], t :: _ => match evA P ts x with
        | some a => capA P t a
        | none => none
      | _, _ => none
    | .builtin .max => match evL P ts c.args.toList with
      | some l => maxs l
      | none => none
    | .builtin .min => match evL P ts c.args.toList with
      | some l => mins l
      | none => none
    | _ => none
  | _ => none

/-- An operation that makes one block, b: its value, and the block. -/
def allocA (ts : List AV) (b : Nat) (op : Op) : Option (AV × AObj) :=
  match op with
  | .alloc t => match zeroA P t with
    | some z => some (.ptr b 0, .cells false z.cells)
    | none => none
  | .box _ x => match evA P ts x with
    | some v => some (.ptr b 0, .cells false v.cells)
    | none => none
  | .buildSlice t len parts => match P.underlying t with
    | some (.slice elem) => match sizeA P elem, zeroA P elem, evParts P ts parts.toList with
      | some size, some z, some l =>
        if Nat.ble (len * size) 16777216 && Nat.beq z.cells.length size && !(Nat.beq size 0) then
          match fillA (fun i => some (i * size, size)) (repeatL len z.cells) l with
          | some cs => some (.slice b 0 len len, .cells false cs)
          | none => none
        else none
      | _, _, _ => none
    | _ => none
  | .makeMap t r => match r with
    | none => some (.map b, .map [] [] 0)
    | some x => match P.underlying t, evA P ts x with
      | some (.map _ _), some (.int _ _) => some (.map b, .map [] [] 0)
      | _, _ => none
  | .makeSlice t l c => match P.underlying t, evA P ts l, evA P ts c with
    | some (.slice elem), some (.int _ m), some (.int _ n) => match sizeA P elem, bytesA P elem, zeroA P elem with
      | some size, some bytes, some z =>
        if decide (0 ≤ m) && decide (m ≤ n) && decide (n ≤ 16777216) && Nat.ble bytes 4096 && Nat.beq z.cells.length size && !(Nat.beq size 0) then
          some (.slice b 0 m.toNat n.toNat, .cells false (repeatL n.toNat z.cells))
        else none
      | _, _, _ => none
    | _, _, _ => none
  | _ => none

inductive Out where
  | val (v : AV) (s : AS)
  | enter (f : FuncId) (args : List AV)

def callableA (f : FuncId) : Bool :=
  match P.funcs[f]? with
  | some fn => fn.body.isSome && fn.name != "runtime.NumGoroutine"
  | none => false

/-- The function that a method of a type is, where its receiver is the very value. -/
def methodA (t : TypeId) (name : String) : Option FuncId :=
  match P.info? t with
  | some i => match i.methods.find? (·.name == name) with
    | some m => if m.path.isEmpty then match m.func, P.underlying t with
        | some (f, true), some (.pointer _) => some f
        | some (_, false), some (.pointer _) => none
        | some (f, false), some _ => some f
        | _, _ => none
      else none
    | none => none
  | none => none

def enterA (f : FuncId) (args : List AV) : Option Out := if callableA P f then some (.enter f args) else none

def effA (ts : List AV) (s : AS) (op : Op) : Option Out :=
  match op with
  | .store t a x => match evA P ts a, evA P ts x with
    | some p, some v => match storeA P s t p v with
      | some s' => some (.val undefA s')
      | none => none
    | _, _ => none
  | .mapUpdate t m k x => match evA P ts m, evA P ts k, evA P ts x with
    | some a, some b, some v => match updateA P s t a b v with
      | some s' => some (.val undefA s')
      | none => none
    | _, _, _ => none
  | .insert t m k x => match evA P ts m, evA P ts k, evA P ts x with
    | some a, some b, some v => match updateA P s t a b v with
      | some s' => some (.val undefA s')
      | none => none
    | _, _, _ => none
  | .mapEntry t m k => match evA P ts m, evA P ts k with
    | some a, some b => match entryA P s t a b with
      | some (v, n, s') => some (.val (.tuple [v, .int .i64 (Int.ofNat n)]) s')
      | none => none
    | _, _ => none
  | .entryStore _ m st x => match evA P ts m, evA P ts st, evA P ts x with
    | some a, some b, some v => match entryStoreA s a b v with
      | some s' => some (.val undefA s')
      | none => none
    | _, _, _ => none
  | .call c => match evL P ts c.args.toList with
    | some args => match c.callee with
      | .value f => match evA P ts f with
        | some (.func (.func g) first captured) => enterA P g (first ++ args ++ captured)
        | _ => none
      | .invoke r name => match evA P ts r with
        | some (.iface t v) => match methodA P t name with
          | some g => enterA P g (v :: args)
          | none => none
        | _ => none
      | .builtin .append => match args, c.argTypes.toList with
        | [x, y], t :: t2 :: _ => match appendA P s t t2 x y with
          | some (v, s') => some (.val v s')
          | none => none
        | _, _ => none
      | .builtin .copy => match args, c.argTypes.toList with
        | [x, y], t :: _ => match copyA P s t x y with
          | some (v, s') => some (.val v s')
          | none => none
        | _, _ => none
      | .builtin .delete => match args, c.argTypes.toList with
        | [x, y], t :: _ => match deleteA P s t x y with
          | some s' => some (.val undefA s')
          | none => none
        | _, _ => none
      | _ => none
    | none => none
  | _ => none

def opA (ts : List AV) (s : AS) (op : Op) : Option Out :=
  match kindOf op with
  | .P => match valA P ts s op with
    | some v => some (.val v s)
    | none => none
  | .R => match valA P ts s op with
    | some v => some (.val v s)
    | none => none
  | .A => match allocA P ts s.nx op with
    | some (v, o) => some (.val v (s.push o))
    | none => none
  | .E => effA P ts s op
  | .X => none

/-! ### code -/
inductive AExit where
  | normal
  | exit (id : Nat)
  | goto (l : Nat)
  | ret

inductive Task where
  | code (c : Code) (ts : List AV) (s : AS)
  | call (f : FuncId) (args : List AV) (s : AS)

structure Res where
  e : AExit
  ts : List AV
  s : AS

def putA (ts : List AV) (dst : Option Tmp) (v : AV) : List AV :=
  match dst with
  | some d => ts.set d v
  | none => ts

def dstOf (ops : Array Oper) (j : Nat) : Option Tmp :=
  match ops[j]? with
  | some o => o.dst
  | none => none

def wantedA (ops : Array Oper) (ts : List AV) (o : Oper) : Bool :=
  match o.guard with
  | none => true
  | some (j, want) => match dstOf ops j with
    | some d => match ts[d]? with
      | some (.bool b) => b == want
      | _ => false
    | none => false

/-- Is nothing known of what an operation hangs on? -/
def gjunk (ops : Array Oper) (ts : List AV) (o : Oper) : Bool :=
  match o.guard with
  | none => false
  | some (j, _) => match dstOf ops j with
    | some d => match ts[d]? with
      | some (.tuple [_]) => true
      | _ => false
    | none => false

/-- One operation of a region, done or passed over: what it puts. -/
def stepV (rec : Task → Option Res) (ops : Array Oper) (o : Oper) (ts : List AV) (s : AS) : Option (AV × AS) :=
  if gjunk ops ts o then none else if wantedA ops ts o then
    match opA P ts s o.op with
    | some (.val v s') => some (v, s')
    | some (.enter f args) => match rec (.call f args s) with
      | some ⟨_, [v], s'⟩ => some (v, s')
      | _ => none
    | none => none
  else some (undefA, s)
def stepOp (rec : Task → Option Res) (ops : Array Oper) (o : Oper) (ts : List AV) (s : AS) : Option (List AV × AS) :=
  match stepV P rec ops o ts s with
  | some (v, s') => some (putA ts o.dst v, s')
  | none => none

def stepOps (rec : Task → Option Res) (ops : Array Oper) : List Oper → List AV → AS → Option (List AV × AS)
  | [], ts, s => some (ts, s)
  | o :: l, ts, s => match stepOp P rec ops o ts s with
    | some (ts', s') => stepOps rec ops l ts' s'
    | none => none

def resultA (ts : List AV) (s : AS) (r : ResultVar) : Option AV :=
  match r with
  | .tmp t => some (tget ts t)
  | .cell a t => loadA P s t (tget ts a)
def resultsA (ts : List AV) (s : AS) : List ResultVar → Option (List AV)
  | [] => some []
  | r :: rs => match resultA P ts s r with
    | some v => match resultsA ts s rs with
      | some vs => some (v :: vs)
      | none => none
    | none => none
def oneOrTuple (vs : List AV) : AV :=
  match vs with
  | [v] => v
  | vs => .tuple vs

/-- Is anything of what a call made still to be named? (A heuristic: else its blocks go.) -/
def keeps (nx : Nat) (v : AV) (s : AS) : Bool :=
  v.young (nx - 1) || (match s.h.esc with
    | some m => Nat.blt m nx
    | none => false)
/-- What a call wrote that its caller knew. -/
def olds (nx : Nat) : List Nat → List Nat → List Nat
  | [], r => r
  | b :: l, r => if Nat.blt b nx then b :: olds nx l r else olds nx l r
def leave (s s' : AS) (v : AV) : AS :=
  if keeps s.nx v s' then ⟨⟨s'.h.bs, s'.h.len, minE s.h.esc s'.h.esc, olds s.nx s'.h.wr s.h.wr⟩, s'.nx⟩
  else ⟨⟨s'.h.bs.drop (s'.h.len - s.h.len), s.h.len, minE s.h.esc s'.h.esc, olds s.nx s'.h.wr s.h.wr⟩, s'.nx⟩

end

/-! ### a region that draws its order: once, in an order of our own; what is read must read the same wherever it may come -/
def maskOf (acc : List Nat) (es : List Edge) : Nat :=
  match es with
  | [] => 0
  | e :: es => if Region.binds .any e then (2 ^ e.on ||| acc.getD e.on 0) ||| maskOf acc es else maskOf acc es
def befGo : List Oper → List Nat → List Nat
  | [], acc => acc
  | o :: l, acc => befGo l (acc ++ [maskOf acc o.after.toList])
/-- Bit j of the i-th: j comes ahead of i, whatever is drawn. -/
def befores (ops : Array Oper) : List Nat := befGo ops.toList []

def isE (o : Oper) : Bool := match kindOf o.op with
  | .E => true
  | _ => false

/-- The places of operations that turn something. -/
def effsOf : List Oper → Nat → List Nat
  | [], _ => []
  | o :: l, i => if isE o then i :: effsOf l (i + 1) else effsOf l (i + 1)

def countB (p : Nat → Bool) : List Nat → Nat
  | [] => 0
  | x :: l => if p x then countB p l + 1 else countB p l

/-- How many that turn something come ahead of the i-th in any order. -/
def lastE (bf : List Nat) (es : List Nat) (i : Nat) : Nat := countB (fun e => (bf.getD i 0).testBit e) es
/-- How many that turn something may come ahead of the i-th. -/
def firstE (bf : List Nat) (es : List Nat) (i : Nat) : Nat := countB (fun e => !(bf.getD e 0).testBit i) es

def chainOk (bf : List Nat) : List Nat → Bool
  | [] => true
  | e :: es => es.all (fun f => (bf.getD f 0).testBit e) && chainOk bf es

/-- The operations of one stage: those that turn nothing, and come behind just k that do. -/
def stageOf (bf es : List Nat) (k : Nat) : List Oper → Nat → List Nat
  | [], _ => []
  | o :: l, i => if !isE o && Nat.beq (lastE bf es i) k then i :: stageOf bf es k l (i + 1) else stageOf bf es k l (i + 1)

/-- The order of our own: a stage, the next one that turns something, a stage .. -/
def orderOf (ops : List Oper) (bf es : List Nat) : List Nat → Nat → List Nat
  | [], k => stageOf bf es k ops 0
  | e :: r, k => stageOf bf es k ops 0 ++ e :: orderOf ops bf es r (k + 1)

def linOk (bf : List Nat) : List Nat → Bool
  | [] => true
  | x :: l => l.all (fun y => !(bf.getD x 0).testBit y && !(Nat.beq x y)) && linOk bf l

/-- The static side: edges go forward; slots that meet are ordered; what turns something is ordered; our order is one of those that may be drawn. -/
def drawOk (ops : Array Oper) : Bool :=
  let bf := befores ops
  let l := ops.toList
  let n := l.length
  let es := effsOf l 0
  let L := orderOf l bf es es 0
  chainOk bf es && linOk bf L && ((List.range n).all fun i => L.contains i) &&
  (List.range n).all fun j => match l[j]? with
    | some oj =>
      (match kindOf oj.op with
        | .X => false
        | .R => oj.dst.isSome
        | _ => true) &&
      (oj.after.toList.all fun e => !Region.binds .any e || Nat.blt e.on j) &&
      (List.range j).all fun i => match l[i]? with
        | some oi => (bf.getD j 0).testBit i || oi.apart ops oj
        | none => true
    | none => true

/-- What was done: which operation, with which slots, what it put; the next block's name; the stage. -/
structure TE where
  i : Nat
  ts : List AV
  nx : Nat
  k : Nat
  v : AV
  wr : List Nat

section
variable (P : Program)
def stageRun (rec : Task → Option Res) (ops : Array Oper) (k : Nat) : List Nat → List AV → AS → List TE → Option (List AV × AS × List TE)
  | [], ts, s, tr => some (ts, s, tr)
  | i :: l, ts, s, tr => match ops[i]? with
    | some o => match stepV P rec ops o ts s with
      | some (v, s') => stageRun rec ops k l (putA ts o.dst v) s' (⟨i, ts, s.nx, k, v, s.h.wr⟩ :: tr)
      | none => none
    | none => none

mutual
/-- No address in it. -/
def AV.plain : AV → Bool
  | .ptr _ _ => false
  | .agg cs => plains cs
  | .tuple cs => plains cs
  | _ => true
  termination_by structural x => x
def plains : List AV → Bool
  | [] => true
  | a :: as => a.plain && plains as
  termination_by structural x => x
end
/-- The blocks that are read. -/
def touchA (ts : List AV) (op : Op) : Option (List Nat) :=
  match op with
  | .binOp _ _ x y _ => match evA P ts x, evA P ts y with
    | some a, some b => if a.plain || b.plain then some [] else match a, b with
      | .ptr b _, .ptr c _ => some [b, c]
      | _, _ => none
    | _, _ => none
  | .load _ a => match evA P ts a with
    | some (.ptr b _) => some [b]
    | _ => none
  | .lookup _ m k _ => match evA P ts m, evA P ts k with
    | some (.map b), some k => if k.plain then some [b] else none
    | some .nilMap, some _ => some []
    | _, _ => none
  | .call c => match c.args.toList with
    | [x] => match evA P ts x with
      | some (.map b) => some [b]
      | some _ => some []
      | none => none
    | _ => none
  | _ => none
def notIn (b : Nat) : List Nat → Bool
  | [] => true
  | x :: l => !(Nat.beq x b) && notIn b l
/-- What was read has not been written since. -/
def stayed (r : TE) (s : AS) (op : Op) : Bool :=
  match touchA P r.ts op with
  | some l => l.all fun b => Nat.blt b r.nx && notIn b (s.h.wr.take (s.h.wr.length - r.wr.length))
  | none => false
/-- Does a read that may come in stage k read in s what it read? -/
def readOk (ops : Array Oper) (bf es : List Nat) (s : AS) (k : Nat) (r : TE) : Bool :=
  match ops[r.i]? with
  | some o => match kindOf o.op with
    | .R => if wantedA ops r.ts o && Nat.ble r.k k && Nat.ble k (firstE bf es r.i) then
        if stayed P r s o.op then true else (match valA P r.ts s o.op with
        | some v => AV.beq v r.v
        | none => false) else true
    | _ => true
  | none => false

def heapsOk (ops : Array Oper) (bf es : List Nat) (tr : List TE) : Nat → List AS → Bool
  | _, [] => true
  | k, s :: l => tr.all (readOk P ops bf es s k) && heapsOk ops bf es tr (k + 1) l

/-- Stage k, then the next one that turns something, and so on; gs: the heaps behind the stages, the last first. -/
def stages (rec : Task → Option Res) (ops : Array Oper) (bf es : List Nat) : List Nat → Nat → List AV → AS → List TE → List AS → Option (List AV × AS × List TE × List AS)
  | rest, k, ts, s, tr, gs => match stageRun P rec ops k (stageOf bf es k ops.toList 0) ts s tr with
    | some (ts', s', tr') => match rest with
      | [] => some (ts', s', tr', s' :: gs)
      | e :: rest' => match ops[e]? with
        | some o => match stepV P rec ops o ts' s' with
          | some (v, s'') => stages rec ops bf es rest' (k + 1) (putA ts' o.dst v) s'' (⟨e, ts', s'.nx, k, v, s'.h.wr⟩ :: tr') (s' :: gs)
          | none => none
        | none => none
    | none => none

def drawRun (rec : Task → Option Res) (ops : Array Oper) (ts : List AV) (s : AS) : Option (List AV × AS) :=
  if drawOk ops then
    match stages P rec ops (befores ops) (effsOf ops.toList 0) (effsOf ops.toList 0) 0 ts s [] [] with
    | some (ts', s', tr, gs) => if heapsOk P ops (befores ops) (effsOf ops.toList 0) tr 0 gs.reverse then some (ts', s') else none
    | none => none
  else none

def step (rec : Task → Option Res) : Task → Option Res
  | .code c ts s => match c with
    | .skip => some ⟨.normal, ts, s⟩
    | .label _ => some ⟨.normal, ts, s⟩
    | .region _ ops draw => match (if draw then drawRun P rec ops ts s else stepOps P rec ops ops.toList ts s) with
      | some (ts', s') => some ⟨.normal, ts', s'⟩
      | none => none
    | .seq a b => match rec (.code a ts s) with
      | some ⟨.normal, ts', s'⟩ => rec (.code b ts' s')
      | r => r
    | .cond c a b => match evA P ts c with
      | some (.bool true) => rec (.code a ts s)
      | some (.bool false) => rec (.code b ts s)
      | _ => none
    | .block id c => match rec (.code c ts s) with
      | some ⟨.exit id', ts', s'⟩ => if Nat.beq id' id then some ⟨.normal, ts', s'⟩ else some ⟨.exit id', ts', s'⟩
      | r => r
    | .loop c => match rec (.code c ts s) with
      | some ⟨.normal, ts', s'⟩ => rec (.code (.loop c) ts' s')
      | r => r
    | .exit id => some ⟨.exit id, ts, s⟩
    | .goto _ => none
    | .scope c => match rec (.code c ts s) with
      | some ⟨.goto _, _, _⟩ => none
      | r => r
    | .ret => some ⟨.ret, ts, s⟩
    | .rangeFunc .. => none
    | .refuse _ => none
  | .call f args s => match P.funcs[f]? with
    | some fn => match fn.body with
      | some c => match rec (.code c (args ++ List.replicate (fn.ntmps - args.length) undefA) ⟨⟨s.h.bs, s.h.len, none, []⟩, s.nx⟩) with
        | some ⟨e, ts, s'⟩ => match e with
          | .exit _ => none
          | .goto _ => none
          | _ => match resultsA P ts s' fn.results.toList with
            | some vs => some ⟨.ret, [oneOrTuple vs], leave s s' (oneOrTuple vs)⟩
            | none => none
        | none => none
      | none => none
    | none => none

def run : Nat → Task → Option Res := Nat.rec (fun _ => none) (fun _ ih => step P ih)
end
end Go.Mini

namespace Go.Mini
open Go Go.RowKit

structure Loc where
  c : Nat
  d : Nat
  sz : Nat
abbrev Ren := Nat → Option Loc

mutual
def VRel (ρ : Ren) : AV → Value → Prop
  | .bool b, v => v = .bool b
  | .int k n, v => v = .int k n
  | .str s, v => v = .string s
  | .nilPtr, v => v = .pointer none
  | .ptr b o, v => ∃ L, ρ b = some L ∧ v = .pointer (some ⟨L.c, L.d + o, none⟩)
  | .nilSlice, v => v = .slice none 0 0
  | .slice b o len cap, v => ∃ a, v = .slice (some a) len cap ∧ len ≤ cap ∧ (cap ≠ 0 → ∃ L, ρ b = some L ∧ a = ⟨L.c, L.d + o, none⟩)
  | .osl b o len esz, v => ∃ L x k, ρ b = some L ∧ v = .slice (some ⟨L.c, x, none⟩) len k ∧ len ≤ k ∧ x + k * esz ≤ L.sz ∧ (len ≠ 0 → x = L.d + o)
  | .nilMap, v => v = .map none
  | .map b, v => ∃ L, ρ b = some L ∧ v = .map (some L.c)
  | .func fn fs cs, v => ∃ vs ws : List Value, v = .func fn vs.toArray ws.toArray ∧ VRels ρ fs vs ∧ VRels ρ cs ws
  | .nilFunc, v => v = .nilFunc
  | .iface t x, v => ∃ y, v = .iface t y ∧ VRel ρ x y
  | .nilIface, v => v = .nilIface
  | .agg cs, v => ∃ ws : List Value, v = .agg ws.toArray ∧ VRels ρ cs ws
  | .tuple cs, v => (cs.length = 1 ∧ v.cells = #[v]) ∨ ∃ ws : List Value, v = .tuple ws.toArray ∧ VRels ρ cs ws
  termination_by structural x => x
def VRels (ρ : Ren) : List AV → List Value → Prop
  | [], vs => vs = []
  | a :: as, vs => ∃ w ws, vs = w :: ws ∧ VRel ρ a w ∧ VRels ρ as ws
  termination_by structural x => x
end

section
variable {ρ ρ' : Ren}
@[simp] theorem vrel_bool {b : Bool} {v : Value} : VRel ρ (.bool b) v ↔ v = .bool b := by simp [VRel]
@[simp] theorem vrel_int {k : IntKind} {n : Int} {v : Value} : VRel ρ (.int k n) v ↔ v = .int k n := by simp [VRel]
@[simp] theorem vrel_str {s : ByteArray} {v : Value} : VRel ρ (.str s) v ↔ v = .string s := by simp [VRel]
@[simp] theorem vrel_nilPtr {v : Value} : VRel ρ .nilPtr v ↔ v = .pointer none := by simp [VRel]
@[simp] theorem vrel_nilSlice {v : Value} : VRel ρ .nilSlice v ↔ v = .slice none 0 0 := by simp [VRel]
@[simp] theorem vrel_nilMap {v : Value} : VRel ρ .nilMap v ↔ v = .map none := by simp [VRel]
@[simp] theorem vrel_nilFunc {v : Value} : VRel ρ .nilFunc v ↔ v = .nilFunc := by simp [VRel]
@[simp] theorem vrel_nilIface {v : Value} : VRel ρ .nilIface v ↔ v = .nilIface := by simp [VRel]
@[simp] theorem vrel_ptr {b o : Nat} {v : Value} : VRel ρ (.ptr b o) v ↔ ∃ L, ρ b = some L ∧ v = .pointer (some ⟨L.c, L.d + o, none⟩) := by simp [VRel]
@[simp] theorem vrel_map {b : Nat} {v : Value} : VRel ρ (.map b) v ↔ ∃ L, ρ b = some L ∧ v = .map (some L.c) := by simp [VRel]
@[simp] theorem vrel_slice {b o n c : Nat} {v : Value} : VRel ρ (.slice b o n c) v ↔ ∃ a, v = .slice (some a) n c ∧ n ≤ c ∧ (c ≠ 0 → ∃ L, ρ b = some L ∧ a = ⟨L.c, L.d + o, none⟩) := by simp [VRel]
@[simp] theorem vrel_osl {b o n e : Nat} {v : Value} : VRel ρ (.osl b o n e) v ↔ ∃ L x k, ρ b = some L ∧ v = .slice (some ⟨L.c, x, none⟩) n k ∧ n ≤ k ∧ x + k * e ≤ L.sz ∧ (n ≠ 0 → x = L.d + o) := by simp [VRel]
@[simp] theorem vrel_func {fn : Fn} {fs cs : List AV} {v : Value} : VRel ρ (.func fn fs cs) v ↔ ∃ vs ws : List Value, v = .func fn vs.toArray ws.toArray ∧ VRels ρ fs vs ∧ VRels ρ cs ws := by simp [VRel]
@[simp] theorem vrel_iface {t : TypeId} {x : AV} {v : Value} : VRel ρ (.iface t x) v ↔ ∃ y, v = .iface t y ∧ VRel ρ x y := by simp [VRel]
@[simp] theorem vrel_agg {cs : List AV} {v : Value} : VRel ρ (.agg cs) v ↔ ∃ ws : List Value, v = .agg ws.toArray ∧ VRels ρ cs ws := by simp [VRel]
@[simp] theorem vrel_tuple {cs : List AV} {v : Value} : VRel ρ (.tuple cs) v ↔ (cs.length = 1 ∧ v.cells = #[v]) ∨ ∃ ws : List Value, v = .tuple ws.toArray ∧ VRels ρ cs ws := by simp [VRel]
@[simp] theorem vrels_nil {vs : List Value} : VRels ρ [] vs ↔ vs = [] := by simp [VRels]
@[simp] theorem vrels_cons {a : AV} {as : List AV} {vs : List Value} : VRels ρ (a :: as) vs ↔ ∃ w ws, vs = w :: ws ∧ VRel ρ a w ∧ VRels ρ as ws := by simp [VRels]

mutual
theorem VRel.mono (h : ∀ b L, ρ b = some L → ρ' b = some L) : ∀ {a : AV} {v : Value}, VRel ρ a v → VRel ρ' a v
  | .bool _, _, hv => by simpa using hv
  | .int _ _, _, hv => by simpa using hv
  | .str _, _, hv => by simpa using hv
  | .nilPtr, _, hv => by simpa using hv
  | .ptr _ _, _, hv => by
    rw [vrel_ptr] at hv ⊢
    obtain ⟨L, h1, h2⟩ := hv
    exact ⟨L, h _ _ h1, h2⟩
  | .nilSlice, _, hv => by simpa using hv
  | .slice _ _ _ _, _, hv => by
    rw [vrel_slice] at hv ⊢
    obtain ⟨a, h1, h2, h3⟩ := hv
    exact ⟨a, h1, h2, fun hc => let ⟨L, e1, e2⟩ := h3 hc; ⟨L, h _ _ e1, e2⟩⟩
  | .osl _ _ _ _, _, hv => by
    rw [vrel_osl] at hv ⊢
    obtain ⟨L, x, k, h1, h2⟩ := hv
    exact ⟨L, x, k, h _ _ h1, h2⟩
  | .nilMap, _, hv => by simpa using hv
  | .map _, _, hv => by
    rw [vrel_map] at hv ⊢
    obtain ⟨L, h1, h2⟩ := hv
    exact ⟨L, h _ _ h1, h2⟩
  | .func _ fs cs, _, hv => by
    rw [vrel_func] at hv ⊢
    obtain ⟨vs, ws, h1, h2, h3⟩ := hv
    exact ⟨vs, ws, h1, VRels.mono h h2, VRels.mono h h3⟩
  | .nilFunc, _, hv => by simpa using hv
  | .iface _ x, _, hv => by
    rw [vrel_iface] at hv ⊢
    obtain ⟨y, h1, h2⟩ := hv
    exact ⟨y, h1, VRel.mono h h2⟩
  | .nilIface, _, hv => by simpa using hv
  | .agg cs, _, hv => by
    rw [vrel_agg] at hv ⊢
    obtain ⟨ws, h1, h2⟩ := hv
    exact ⟨ws, h1, VRels.mono h h2⟩
  | .tuple cs, _, hv => by
    rw [vrel_tuple] at hv ⊢
    rcases hv with hv | ⟨ws, h1, h2⟩
    · exact .inl hv
    · exact .inr ⟨ws, h1, VRels.mono h h2⟩
theorem VRels.mono (h : ∀ b L, ρ b = some L → ρ' b = some L) : ∀ {as : List AV} {vs : List Value}, VRels ρ as vs → VRels ρ' as vs
  | [], _, hv => by simpa using hv
  | _ :: _, _, hv => by
    rw [vrels_cons] at hv ⊢
    obtain ⟨w, ws, h1, h2, h3⟩ := hv
    exact ⟨w, ws, h1, VRel.mono h h2, VRels.mono h h3⟩
end

theorem VRels.length : ∀ {as : List AV} {vs : List Value}, VRels ρ as vs → vs.length = as.length
  | [], _, hv => by simp_all
  | _ :: _, _, hv => by
    rw [vrels_cons] at hv
    obtain ⟨w, ws, rfl, _, h3⟩ := hv
    simp [VRels.length h3]
theorem VRels.get : ∀ {as : List AV} {vs : List Value}, VRels ρ as vs → ∀ {i : Nat} {a : AV}, as[i]? = some a → ∃ v, vs[i]? = some v ∧ VRel ρ a v
  | [], _, _, i, a, h => by simp at h
  | _ :: _, _, hv, i, a, h => by
    rw [vrels_cons] at hv
    obtain ⟨w, ws, rfl, h2, h3⟩ := hv
    cases i with
    | zero => simp at h; subst h; exact ⟨w, by simp, h2⟩
    | succ i => simp at h; simpa using VRels.get h3 h
theorem VRels.of_get {as : List AV} {vs : List Value} (hl : vs.length = as.length) (h : ∀ (i : Nat) (a : AV) (v : Value), as[i]? = some a → vs[i]? = some v → VRel ρ a v) : VRels ρ as vs := by
  induction as generalizing vs with
  | nil => simpa using hl
  | cons a as ih =>
    cases vs with
    | nil => simp at hl
    | cons v vs =>
      rw [vrels_cons]
      exact ⟨v, vs, rfl, h 0 a v (by simp) (by simp), ih (by simpa using hl) fun i a' v' h1 h2 => h (i + 1) a' v' (by simpa using h1) (by simpa using h2)⟩
theorem VRels.append : ∀ {as bs : List AV} {vs ws : List Value}, VRels ρ as vs → VRels ρ bs ws → VRels ρ (as ++ bs) (vs ++ ws)
  | [], _, _, _, h1, h2 => by simp at h1; subst h1; simpa using h2
  | _ :: _, _, _, _, h1, h2 => by
    rw [vrels_cons] at h1
    obtain ⟨w, ws, rfl, h3, h4⟩ := h1
    simp only [List.cons_append, vrels_cons]
    exact ⟨_, _, rfl, h3, VRels.append h4 h2⟩
theorem VRels.drop : ∀ (n : Nat) {as : List AV} {vs : List Value}, VRels ρ as vs → VRels ρ (as.drop n) (vs.drop n)
  | 0, _, _, h => by simpa using h
  | n + 1, [], _, h => by simp at h; subst h; simp
  | n + 1, _ :: _, _, h => by
    rw [vrels_cons] at h
    obtain ⟨w, ws, rfl, _, h4⟩ := h
    simpa using VRels.drop n h4
theorem VRels.replicate (n : Nat) {a : AV} {v : Value} (h : VRel ρ a v) : VRels ρ (List.replicate n a) (List.replicate n v) := by
  induction n with
  | zero => simp
  | succ n ih => simp only [List.replicate_succ, vrels_cons]; exact ⟨_, _, rfl, h, ih⟩
theorem VRels.set : ∀ {as : List AV} {vs : List Value} (i : Nat) {a : AV} {v : Value}, VRels ρ as vs → VRel ρ a v → VRels ρ (as.set i a) (vs.set i v)
  | [], _, i, _, _, h, _ => by simp at h; subst h; simp
  | _ :: _, _, i, a, v, h, hv => by
    rw [vrels_cons] at h
    obtain ⟨w, ws, rfl, h3, h4⟩ := h
    cases i with
    | zero => simp only [List.set_cons_zero, vrels_cons]; exact ⟨_, _, rfl, hv, h4⟩
    | succ i => simp only [List.set_cons_succ, vrels_cons]; exact ⟨_, _, rfl, h3, VRels.set i h4 hv⟩

theorem vrel_undef : VRel ρ undefA undef := by simp [undefA, undef]
end

/-! ### constants, operands -/
theorem ofVs_rel (n : Nat) (ih : ∀ (v : Value) (a : AV), ofV n v = some a → ∀ ρ : Ren, VRel ρ a v) :
    ∀ (vs : List Value) (as : List AV), ofV.ofVs n vs = some as → ∀ ρ : Ren, VRels ρ as vs := by
  intro vs
  induction vs with
  | nil => intro as h ρ; simp [ofV.ofVs] at h; subst h; simp
  | cons v vs ihv =>
    intro as h ρ
    simp only [ofV.ofVs] at h
    split at h
    · rename_i a ha
      split at h
      · rename_i bs hb
        simp at h
        subst h
        rw [vrels_cons]
        exact ⟨v, vs, rfl, ih _ _ ha ρ, ihv _ hb ρ⟩
      · simp at h
    · simp at h
theorem ofV_rel : ∀ (n : Nat) (v : Value) (a : AV), ofV n v = some a → ∀ ρ : Ren, VRel ρ a v
  | 0, _, _, h, _ => by simp [ofV] at h
  | n + 1, v, a, h, ρ => by
    have ihs := ofVs_rel n (fun v a h ρ => ofV_rel n v a h ρ)
    unfold ofV at h
    split at h <;> first
      | (simp at h; subst h; simp; done)
      | (simp only [Option.map_eq_some_iff] at h; obtain ⟨b, hb, rfl⟩ := h; simp only [vrel_iface]; exact ⟨_, rfl, ofV_rel n _ _ hb ρ⟩)
      | (simp only [Option.map_eq_some_iff] at h; obtain ⟨b, hb, rfl⟩ := h; simp only [vrel_agg]
         exact ⟨_, by simp, ihs _ _ hb ρ⟩)
      | (simp only [Option.map_eq_some_iff] at h; obtain ⟨b, hb, rfl⟩ := h; simp only [vrel_tuple]
         exact .inr ⟨_, by simp, ihs _ _ hb ρ⟩)
      | simp at h

/-- The frame's slots. -/
structure TR (ρ : Ren) (ts : List AV) (a : Act) : Prop where
  rel : VRels ρ ts a.tmps.toList
  df : a.defers = []

section
variable {ρ : Ren} {ts : List AV} {a : Act}
theorem TR.get (h : TR ρ ts a) (t : Nat) : VRel ρ (tget ts t) (a.tmps.getD t undef) := by
  have hl := h.rel.length
  unfold tget
  rw [Array.getD_eq_getD_getElem?, List.getD_eq_getElem?_getD]
  cases ht : ts[t]? with
  | some x =>
    obtain ⟨v, hv, hr⟩ := h.rel.get ht
    have : a.tmps[t]? = some v := by simpa using hv
    simp [this, hr]
  | none =>
    have h1 : ts.length ≤ t := by simpa using ht
    have : a.tmps[t]? = none := by
      apply Array.getElem?_eq_none
      simp at hl
      omega
    simp [this, vrel_undef]
theorem TR.put (h : TR ρ ts a) (dst : Option Tmp) {x : AV} {v : Value} (hv : VRel ρ x v) : TR ρ (putA ts dst x) (a.put dst v) := by
  cases dst with
  | none => exact h
  | some d =>
    refine ⟨?_, h.df⟩
    simp only [putA, Act.put, Array.toList_setIfInBounds]
    exact h.rel.set d hv
theorem TR.mono {ρ' : Ren} (h : TR ρ ts a) (hm : ∀ b L, ρ b = some L → ρ' b = some L) : TR ρ' ts a := ⟨h.rel.mono hm, h.df⟩

/-- Package-level variables stand where they stand. -/
def GR (P : Program) (ρ : Ren) : Prop := ∀ g, g < P.globals.size → ∃ L, ρ g = some L ∧ L.c = g ∧ L.d = 0

theorem evA_rel {P : Program} (hg : GR P ρ) (h : TR ρ ts a) {x : Operand} {v : AV} (hx : evA P ts x = some v) : VRel ρ v (a.eval x) := by
  cases x with
  | tmp t => simp only [evA, Option.some.injEq] at hx; subst hx; exact h.get t
  | const c => simp only [evA] at hx; exact ofV_rel _ _ _ hx ρ
  | global g =>
    simp only [evA] at hx
    split at hx
    · rename_i hlt
      simp only [Option.some.injEq] at hx
      subst hx
      have hlt' : g < P.globals.size := by simpa [Nat.blt_eq] using hlt
      obtain ⟨L, h1, h2, h3⟩ := hg g hlt'
      rw [vrel_ptr]
      exact ⟨L, h1, by simp [Act.eval, h2, h3]⟩
    · simp at hx
  | func f => simp only [evA, Option.some.injEq] at hx; subst hx; rw [vrel_func]; exact ⟨[], [], rfl, by simp, by simp⟩

theorem evL_rel {P : Program} (hg : GR P ρ) (h : TR ρ ts a) : ∀ {xs : List Operand} {vs : List AV}, evL P ts xs = some vs → VRels ρ vs (xs.map a.eval)
  | [], vs, hx => by simp [evL] at hx; subst hx; simp
  | x :: xs, vs, hx => by
    simp only [evL] at hx
    split at hx
    · rename_i v hv
      split at hx
      · rename_i us hu
        simp only [Option.some.injEq] at hx
        subst hx
        simp only [List.map_cons, vrels_cons]
        exact ⟨_, _, rfl, evA_rel hg h hv, evL_rel hg h hu⟩
      · simp at hx
    · simp at hx

/-- Parts of a literal: places are the same, values stand for one another. -/
def PRels (ρ : Ren) : List (Nat × AV) → List (Nat × Value) → Prop
  | [], vs => vs = []
  | (i, x) :: l, vs => ∃ v ws, vs = (i, v) :: ws ∧ VRel ρ x v ∧ PRels ρ l ws
theorem evParts_rel {P : Program} (hg : GR P ρ) (h : TR ρ ts a) : ∀ {xs : List (Nat × Operand)} {vs : List (Nat × AV)}, evParts P ts xs = some vs →
    PRels ρ vs (xs.map fun p => (p.1, a.eval p.2))
  | [], vs, hx => by simp [evParts] at hx; subst hx; simp [PRels]
  | (i, x) :: xs, vs, hx => by
    simp only [evParts] at hx
    split at hx
    · rename_i v hv
      split at hx
      · rename_i us hu
        simp only [Option.some.injEq] at hx
        subst hx
        simp only [List.map_cons, PRels]
        exact ⟨_, _, rfl, evA_rel hg h hv, evParts_rel hg h hu⟩
      · simp at hx
    · simp at hx
end

/-! ### types, parts -/
section
variable {P : Program} {ρ : Ren}
theorem sizeA_run {t n : Nat} (h : sizeA P t = some n) (w : World) : (sizeOf t).run P w = .ok n w := by
  unfold sizeA at h
  split at h
  · rename_i i hi
    simp only [Option.some.injEq] at h
    simp [sizeOf, typeInfo, hi, h]
  · simp at h
theorem isAggA_run {t : Nat} {b : Bool} (h : isAggA P t = some b) (w : World) : (isAgg t).run P w = .ok b w := by
  unfold isAggA at h
  split at h <;> simp only [Option.some.injEq, reduceCtorEq] at h
  all_goals
    subst h
    simp only [isAgg, Sem.run_bind]
    first
      | (rename_i hu; simp [run_underlying hu]; done)
      | (rename_i d hu _ _; rw [run_underlying hu]; cases d <;> simp_all)
      | (rename_i d _ hu _ _; rw [run_underlying hu]; cases d <;> simp_all)
theorem zeroA_run {t : Nat} {z : AV} (h : zeroA P t = some z) : ∃ v, P.info? t = some ((P.info? t).getD default) ∧ (∀ w, (zeroValue t).run P w = .ok v w) ∧ ∀ ρ : Ren, VRel ρ z v := by
  unfold zeroA at h
  split at h
  · rename_i i hi
    split at h
    · rename_i v hv
      refine ⟨v, by simp [hi], fun w => ?_, fun ρ => ofV_rel _ _ _ h ρ⟩
      simp [zeroValue, typeInfo, hi, hv]
    · simp at h
  · simp at h

theorem takeN_eq : ∀ {n : Nat} {l r : List AV}, takeN n l = some r → r = l.take n ∧ n ≤ l.length
  | 0, l, r, h => by simp [takeN] at h; simp [← h]
  | n + 1, [], r, h => by simp [takeN] at h
  | n + 1, x :: t, r, h => by
    simp only [takeN] at h
    split at h
    · rename_i l hl
      simp only [Option.some.injEq] at h
      obtain ⟨h1, h2⟩ := takeN_eq hl
      subst h
      simp [← h1, h2]
    · simp at h
theorem VRels.take (n : Nat) {as : List AV} {vs : List Value} (h : VRels ρ as vs) : VRels ρ (as.take n) (vs.take n) := by
  refine .of_get (by simp [h.length]) fun i a v h1 h2 => ?_
  rw [List.getElem?_take] at h1 h2
  split at h1
  · rename_i hi
    rw [if_pos hi] at h2
    obtain ⟨u, hu, hr⟩ := h.get h1
    rw [hu] at h2
    simp at h2
    exact h2 ▸ hr
  · simp at h1

theorem part_run {t : Nat} {cs : List AV} {off : Nat} {x : AV} (h : partA P t cs off = some x) {ws : List Value} (hr : VRels ρ cs ws) (w : World) :
    ∃ v, (part t ws.toArray off).run P w = .ok v w ∧ VRel ρ x v := by
  unfold partA at h
  split at h
  · rename_i ha
    split at h
    · rename_i n hn
      split at h
      · rename_i l hl
        simp only [Option.some.injEq] at h
        subst h
        obtain ⟨h1, h2⟩ := takeN_eq hl
        refine ⟨.agg ((ws.drop off).take n).toArray, ?_, ?_⟩
        · simp only [part, Sem.run_bind, isAggA_run ha, Result.andThen_ok, if_true, sizeA_run hn, Sem.run_pure]
          congr 2
          apply Array.ext'
          simp
        · rw [vrel_agg]
          exact ⟨_, rfl, h1 ▸ (hr.drop off).take n⟩
      · simp at h
    · simp at h
  · rename_i ha
    obtain ⟨v, hv, hx⟩ := hr.get h
    refine ⟨v, ?_, hx⟩
    simp only [part, Sem.run_bind, isAggA_run ha, Result.andThen_ok, Bool.false_eq_true, if_false]
    simp [hv]
  · simp at h
end
end Go.Mini

namespace Go.Mini
open Go Go.RowKit

def AObj.rw : AObj → Bool
  | .cells ro _ => !ro
  | .map .. => true
  | .dead => false

def ERel (ρ : Ren) : List (AV × AV) → List MapEntry → Prop
  | [], l => l = []
  | (k, v) :: es, l => ∃ e r, l = e :: r ∧ VRel ρ k e.key ∧ VRel ρ v e.val ∧ ERel ρ es r

/-- A block of the model stands for one of ours. -/
def OO (ρ : Ren) (o : AObj) (L : Loc) (c : Obj) : Prop :=
  match o with
  | .cells ro cs => ∃ arr e fz, c = .cells arr e fz ∧ arr.size = L.sz ∧ (ro = false → fz = (0, 0)) ∧ ∃ vs : List Value, VRels ρ cs vs ∧ ∀ i v, vs[i]? = some v → arr[L.d + i]? = some v
  | .map es bn ck => ∃ ents, c = .map ents ck ∧ ERel ρ es ents.toList ∧ ents.toList.map (·.born) = bn
  | .dead => True
def OM (ρ : Ren) (o : AObj) (L : Loc) (w : World) : Prop := ∃ c, w.heap[L.c]? = some c ∧ OO ρ o L c

/-- A world, and which of its blocks stay as they are. -/
structure Base where
  w : World
  K : Nat → Prop
  lt : ∀ k, K k → k < w.heap.size

/-- What is kept is as it was. -/
structure Kept (K : Nat → Prop) (w w' : World) : Prop where
  os : w'.os = w.os
  tape : w'.tape = w.tape
  output : w'.output = w.output
  size : w.heap.size ≤ w'.heap.size
  block : ∀ k, K k → w'.heap[k]? = w.heap[k]?
theorem Kept.refl (K : Nat → Prop) (w : World) : Kept K w w := ⟨rfl, rfl, rfl, Nat.le_refl _, fun _ _ => rfl⟩
theorem Kept.trans {K : Nat → Prop} {a b c : World} (h : Kept K a b) (k : Kept K b c) : Kept K a c :=
  ⟨k.os.trans h.os, k.tape.trans h.tape, k.output.trans h.output, Nat.le_trans h.size k.size, fun i hi => (k.block i hi).trans (h.block i hi)⟩
theorem Kept.drew {K : Nat → Prop} {a w : World} (h : Kept K a w) : Kept K a w.drew := ⟨h.os, h.tape, h.output, h.size, h.block⟩
theorem Kept.alloc {K : Nat → Prop} {a w : World} (h : Kept K a w) (hK : ∀ k, K k → k < w.heap.size) (o : Obj) : Kept K a (w.alloc o) :=
  h.trans ⟨rfl, rfl, rfl, by simp, fun k hk => Below.heap_alloc _ _ _ (hK k hk)⟩

structure Rel (P : Program) (B : Base) (ρ : Ren) (s : AS) (w : World) : Prop where
  below : Kept B.K B.w w
  glob : GR P ρ
  fresh : ∀ b, s.nx ≤ b → ρ b = none
  keys : ∀ k ∈ s.h.bs.map (·.1), k < s.nx
  lt : ∀ b L, ρ b = some L → L.c < w.heap.size
  obj : ∀ b o L, s.get b = some o → ρ b = some L → OM ρ o L w
  own : ∀ b o L, s.get b = some o → o.rw = true → ρ b = some L → ¬ B.K L.c
  ros : ∀ b cs L, s.get b = some (.cells true cs) → ρ b = some L → B.K L.c
  inj : ∀ b b' o o' L L', s.get b = some o → s.get b' = some o' → o.rw = true → o'.rw = true → ρ b = some L → ρ b' = some L' → L.c = L'.c → b = b'

section
variable {P : Program} {B : Base} {ρ : Ren} {s : AS} {w : World}

theorem rwAt_some {b : Nat} (h : rwAt s b = true) : ∃ cs, s.get b = some (.cells false cs) := by
  unfold rwAt at h
  split at h
  · rename_i cs hc; exact ⟨cs, hc⟩
  · simp at h

theorem eqFields_run (eq : TypeId → AV → AV → Option Bool) (d : Nat) (xs ys : List AV) (vs ws : List Value) (hx : VRels ρ xs vs) (hy : VRels ρ ys ws)
    (ih : ∀ t x y r vx vy, eq t x y = some r → VRel ρ x vx → VRel ρ y vy → (Op.equalIn d t vx vy).run P w = .ok r w) :
    ∀ (fs : List Field) (r : Bool), (∀ f ∈ fs, f.name ≠ "_") → eqFields P eq xs ys fs = some r → (Op.eqFields d vs.toArray ws.toArray fs).run P w = .ok r w
  | [], r, _, h => by
    simp only [eqFields, Option.some.injEq] at h
    subst h
    simp [Op.eqFields]
  | f :: fs, r, hn, h => by
    simp only [eqFields] at h
    split at h
    · rename_i a b ha hb
      obtain ⟨va, hva, hra⟩ := part_run ha hx w
      obtain ⟨vb, hvb, hrb⟩ := part_run hb hy w
      split at h
      · rename_i he
        have h1 := ih _ _ _ _ va vb he hra hrb
        have h2 := eqFields_run eq d xs ys vs ws hx hy ih fs r (fun f hf => hn f (by simp [hf])) h
        simp [Op.eqFields, hn f (by simp), hva, hvb, h1, h2]
      · rename_i he
        have h1 := ih _ _ _ _ va vb he hra hrb
        simp only [Option.some.injEq] at h
        subst h
        simp [Op.eqFields, hn f (by simp), hva, hvb, h1]
      · simp at h
    · simp at h

theorem eqElems_run (eq : TypeId → AV → AV → Option Bool) (d elem n : Nat) (xs ys : List AV) (vs ws : List Value) (hx : VRels ρ xs vs) (hy : VRels ρ ys ws)
    (ih : ∀ t x y r vx vy, eq t x y = some r → VRel ρ x vx → VRel ρ y vy → (Op.equalIn d t vx vy).run P w = .ok r w) :
    ∀ (k i : Nat) (r : Bool), eqElems P eq elem n xs ys k i = some r →
      (forIn (m := Sem) (List.range' i k 1) ((none, ()) : Option Bool × Unit) (fun j _ => do
        let a ← part elem vs.toArray (j * n)
        let b ← part elem ws.toArray (j * n)
        let c ← Op.equalIn d elem a b
        if (!c) = true then pure (.done (some false, ())) else
          pure (.yield (none, ())))).run P w = .ok (if r then (none, ()) else (some false, ())) w
  | 0, i, r, h => by
    simp only [eqElems, Option.some.injEq] at h
    subst h
    simp [List.range'_zero]
  | k + 1, i, r, h => by
    simp only [eqElems] at h
    split at h
    · rename_i a b ha hb
      obtain ⟨va, hva, hra⟩ := part_run ha hx w
      obtain ⟨vb, hvb, hrb⟩ := part_run hb hy w
      rw [List.range'_succ, List.forIn_cons]
      split at h
      · rename_i he
        have h1 := ih _ _ _ _ va vb he hra hrb
        have h2 := eqElems_run eq d elem n xs ys vs ws hx hy ih k (i + 1) r h
        simp only [Sem.run_bind, hva, hvb, h1, Result.andThen_ok, Bool.not_true, Bool.false_eq_true, if_false, Sem.run_pure]
        exact h2
      · rename_i he
        have h1 := ih _ _ _ _ va vb he hra hrb
        simp only [Option.some.injEq] at h
        subst h
        simp only [Sem.run_bind, hva, hvb, h1, Result.andThen_ok, Bool.not_false, if_true, Sem.run_pure]
        rfl
      · simp at h
    · simp at h
end
section
variable {P : Program} {B : Base} {ρ : Ren} {s : AS} {w : World}

theorem noBlank_ne {fs : Array Field} (h : noBlank fs = true) : ∀ f ∈ fs.toList, f.name ≠ "_" := by
  intro f hf
  have := List.all_eq_true.1 h f hf
  simpa using this

theorem Rel.row {R : Rel P B ρ s w} {b : Nat} {cs : List AV} {ro : Bool} {L : Loc} (hb : s.get b = some (.cells ro cs)) (hL : ρ b = some L) :
    ∃ arr e fz, w.heap[L.c]? = some (.cells arr e fz) ∧ arr.size = L.sz ∧ (ro = false → fz = (0, 0)) ∧ ∃ vs : List Value, VRels ρ cs vs ∧ ∀ i v, vs[i]? = some v → arr[L.d + i]? = some v := by
  obtain ⟨c, hc, ho⟩ := R.obj _ _ _ hb hL
  obtain ⟨arr, e, fz, rfl, h⟩ := ho
  exact ⟨arr, e, fz, hc, h⟩

theorem sameAddr_apart (R : Rel P B ρ s w) {b c : Nat} {L M : Loc} (hb : rwAt s b = true) (hc : rwAt s c = true) (hL : ρ b = some L) (hM : ρ c = some M) (hne : b ≠ c) (x y : Nat) :
    (sameAddr ⟨L.c, x, none⟩ ⟨M.c, y, none⟩).run P w = .ok false w := by
  obtain ⟨cs, h1⟩ := rwAt_some hb
  obtain ⟨ds, h2⟩ := rwAt_some hc
  obtain ⟨ar, e, fz, k1, k2, k3, k4⟩ := Rel.row (R := R) h1 hL
  obtain ⟨ar', e', fz', k1', k2', k3', k4'⟩ := Rel.row (R := R) h2 hM
  have hcne : L.c ≠ M.c := fun h => hne (R.inj _ _ _ _ _ _ h1 h2 rfl rfl hL hM h)
  have f1 : fz = (0, 0) := k3 rfl
  have f2 : fz' = (0, 0) := k3' rfl
  subst f1
  subst f2
  have fr1 : ∀ o, w.frozen? ⟨L.c, o, none⟩ = false := fun o => by simp [World.frozen?, k1]
  have fr2 : ∀ o, w.frozen? ⟨M.c, o, none⟩ = false := fun o => by simp [World.frozen?, k1']
  have s1 : w.shape? L.c = some (e, ar.size) := by simp [World.shape?, k1]
  have s2 : w.shape? M.c = some (e', ar'.size) := by simp [World.shape?, k1']
  simp [sameAddr, hcne, fr1, fr2, noView, viewAt, s1, s2, mayBeOne, stringish]

theorem eqBool_run {t : TypeId} {x y : AV} {r : Bool} {vx vy : Value} (hu : P.underlying t = some .bool) (h : eqBool x y = some r) (hx : VRel ρ x vx) (hy : VRel ρ y vy) (d : Nat) :
    (Op.equalIn (d + 1) t vx vy).run P w = .ok r w := by
  unfold eqBool at h
  split at h
  · simp at hx hy h; subst hx hy h; simp [Op.equalIn, run_underlying hu]
  · simp at h
theorem eqInt_run {t : TypeId} {k : IntKind} {x y : AV} {r : Bool} {vx vy : Value} (hu : P.underlying t = some (.int k)) (h : eqInt x y = some r) (hx : VRel ρ x vx) (hy : VRel ρ y vy) (d : Nat) :
    (Op.equalIn (d + 1) t vx vy).run P w = .ok r w := by
  unfold eqInt at h
  split at h
  · simp only [vrel_int] at hx hy
    subst hx hy
    split at h
    · simp at h; subst h; subst_vars; exact run_equalIn_int w d t _ _ _ _ hu
    · simp at h
  · simp at h
theorem eqStr_run {t : TypeId} {x y : AV} {r : Bool} {vx vy : Value} (hu : P.underlying t = some .string) (h : eqStr x y = some r) (hx : VRel ρ x vx) (hy : VRel ρ y vy) (d : Nat) :
    (Op.equalIn (d + 1) t vx vy).run P w = .ok r w := by
  unfold eqStr at h
  split at h
  · simp only [vrel_str] at hx hy
    simp only [Option.some.injEq] at h
    subst hx hy h
    simp [Op.equalIn, run_underlying hu]
  · simp at h
theorem eqPtr_run (R : Rel P B ρ s w) {t e : TypeId} {x y : AV} {r : Bool} {vx vy : Value} (hu : P.underlying t = some (.pointer e)) (h : eqPtr P s e x y = some r) (hx : VRel ρ x vx) (hy : VRel ρ y vy) (d : Nat) :
    (Op.equalIn (d + 1) t vx vy).run P w = .ok r w := by
  unfold eqPtr at h
  split at h
  · simp only [vrel_nilPtr, Option.some.injEq] at hx hy h; subst hx hy h; simp [Op.equalIn, run_underlying hu]
  · simp only [vrel_nilPtr, vrel_ptr, Option.some.injEq] at hx hy h
    obtain ⟨L, _, rfl⟩ := hy
    subst hx h
    simp [Op.equalIn, run_underlying hu]
  · simp only [vrel_nilPtr, vrel_ptr, Option.some.injEq] at hx hy h
    obtain ⟨L, _, rfl⟩ := hx
    subst hy h
    simp [Op.equalIn, run_underlying hu]
  · rename_i b o c p
    rw [vrel_ptr] at hx hy
    obtain ⟨L, hL, rfl⟩ := hx
    obtain ⟨M, hM, rfl⟩ := hy
    split at h
    · rename_i k hk
      have hs := sizeA_run hk w
      split at h
      · rename_i hbc
        have hbc' : b = c := by simpa using hbc
        subst hbc'
        rw [hL] at hM
        simp only [Option.some.injEq] at hM h
        subst hM h
        simp only [Op.equalIn, Sem.run_bind, run_underlying hu, Result.andThen_ok, hs]
        simp only [ne_eq, Nat.add_one_ne_zero, not_false_eq_true, if_true, sameAddr, beq_self_eq_true, Sem.run_pure]
        congr 1
        by_cases hop : o = p
        · subst hop; simp
        · have h1 : Nat.beq o p = false := by
            cases hh : Nat.beq o p
            · rfl
            · exact absurd (Nat.eq_of_beq_eq_true hh) hop
          rw [h1]
          apply beq_false_of_ne
          intro h'
          injection h' with h2 h3
          omega
      · rename_i hbc
        have hbc' : b ≠ c := by simpa using hbc
        split at h
        · rename_i hr
          simp only [Bool.and_eq_true] at hr
          simp only [Option.some.injEq] at h
          subst h
          have := sameAddr_apart R hr.1 hr.2 hL hM hbc' (L.d + o) (M.d + p)
          simp [Op.equalIn, run_underlying hu, hs, this]
        · simp at h
    · simp at h
  · simp at h
theorem eqIfc_run {t : TypeId} {ms : Array (String × TypeId)} {x y : AV} {r : Bool} {vx vy : Value} (hu : P.underlying t = some (.interface ms)) (h : eqIfc x y = some r) (hx : VRel ρ x vx) (hy : VRel ρ y vy) (d : Nat) :
    (Op.equalIn (d + 1) t vx vy).run P w = .ok r w := by
  unfold eqIfc at h
  split at h
  · simp only [vrel_nilIface, Option.some.injEq] at hx hy h; subst hx hy h; simp [Op.equalIn, run_underlying hu]
  · simp only [vrel_nilIface, vrel_iface, Option.some.injEq] at hx hy h
    obtain ⟨_, rfl, _⟩ := hy
    subst hx h
    simp [Op.equalIn, run_underlying hu]
  · simp only [vrel_nilIface, vrel_iface, Option.some.injEq] at hx hy h
    obtain ⟨_, rfl, _⟩ := hx
    subst hy h
    simp [Op.equalIn, run_underlying hu]
  · simp only [vrel_iface] at hx hy
    obtain ⟨_, rfl, _⟩ := hx
    obtain ⟨_, rfl, _⟩ := hy
    split at h
    · simp at h
    · rename_i htu
      simp only [Option.some.injEq] at h
      subst h
      rename_i t1 _ u1 _ _ _ _ _
      have htu' : ¬ t1 = u1 := fun he => htu (by rw [he]; exact Nat.beq_refl u1)
      simp [Op.equalIn, run_underlying hu, htu']
  · simp at h
theorem eqSli_run {t e : TypeId} {x y : AV} {r : Bool} {vx vy : Value} (hu : P.underlying t = some (.slice e)) (h : eqSli x y = some r) (hx : VRel ρ x vx) (hy : VRel ρ y vy) (d : Nat) :
    (Op.equalIn (d + 1) t vx vy).run P w = .ok r w := by
  unfold eqSli at h
  split at h
  · simp only [vrel_nilSlice, Option.some.injEq] at hx hy h; subst hx hy h; simp [Op.equalIn, run_underlying hu]
  · simp only [vrel_nilSlice, vrel_slice, Option.some.injEq] at hx hy h
    obtain ⟨_, rfl, _⟩ := hy
    subst hx h
    simp [Op.equalIn, run_underlying hu]
  · simp only [vrel_nilSlice, vrel_osl, Option.some.injEq] at hx hy h
    obtain ⟨_, _, _, _, rfl, _⟩ := hy
    subst hx h
    simp [Op.equalIn, run_underlying hu]
  · simp only [vrel_nilSlice, vrel_slice, Option.some.injEq] at hx hy h
    obtain ⟨_, rfl, _⟩ := hx
    subst hy h
    simp [Op.equalIn, run_underlying hu]
  · simp only [vrel_nilSlice, vrel_osl, Option.some.injEq] at hx hy h
    obtain ⟨_, _, _, _, rfl, _⟩ := hx
    subst hy h
    simp [Op.equalIn, run_underlying hu]
  · simp at h
theorem eqMap_run {t k e : TypeId} {x y : AV} {r : Bool} {vx vy : Value} (hu : P.underlying t = some (.map k e)) (h : eqMap x y = some r) (hx : VRel ρ x vx) (hy : VRel ρ y vy) (d : Nat) :
    (Op.equalIn (d + 1) t vx vy).run P w = .ok r w := by
  unfold eqMap at h
  split at h
  · simp only [vrel_nilMap, Option.some.injEq] at hx hy h; subst hx hy h; simp [Op.equalIn, run_underlying hu]
  · simp only [vrel_nilMap, vrel_map, Option.some.injEq] at hx hy h
    obtain ⟨_, _, rfl⟩ := hy
    subst hx h
    simp [Op.equalIn, run_underlying hu]
  · simp only [vrel_nilMap, vrel_map, Option.some.injEq] at hx hy h
    obtain ⟨_, _, rfl⟩ := hx
    subst hy h
    simp [Op.equalIn, run_underlying hu]
  · simp at h
theorem eqFun_run {t : TypeId} {ps rs : Array TypeId} {va : Bool} {x y : AV} {r : Bool} {vx vy : Value} (hu : P.underlying t = some (.func ps rs va)) (h : eqFun x y = some r) (hx : VRel ρ x vx) (hy : VRel ρ y vy) (d : Nat) :
    (Op.equalIn (d + 1) t vx vy).run P w = .ok r w := by
  unfold eqFun at h
  split at h
  · simp only [vrel_nilFunc, Option.some.injEq] at hx hy h; subst hx hy h; simp [Op.equalIn, run_underlying hu]
  · simp only [vrel_nilFunc, vrel_func, Option.some.injEq] at hx hy h
    obtain ⟨_, _, rfl, _⟩ := hy
    subst hx h
    simp [Op.equalIn, run_underlying hu]
  · simp only [vrel_nilFunc, vrel_func, Option.some.injEq] at hx hy h
    obtain ⟨_, _, rfl, _⟩ := hx
    subst hy h
    simp [Op.equalIn, run_underlying hu]
  · simp at h
theorem aggOf_rel {x : AV} {cs : List AV} {v : Value} (h : aggOf x = some cs) (hx : VRel ρ x v) : ∃ ws : List Value, v = .agg ws.toArray ∧ VRels ρ cs ws := by
  unfold aggOf at h
  split at h
  · simp only [Option.some.injEq] at h; subst h; simpa using hx
  · simp at h

theorem eqA_run (R : Rel P B ρ s w) : ∀ (n : Nat) (t : TypeId) (x y : AV) (r : Bool) (vx vy : Value), eqA P s n t x y = some r → VRel ρ x vx → VRel ρ y vy →
    ∀ d, n ≤ d → (Op.equalIn d t vx vy).run P w = .ok r w
  | 0, _, _, _, _, _, _, h, _, _, _, _ => by simp [eqA] at h
  | n + 1, t, x, y, r, vx, vy, h, hx, hy, 0, hd => by omega
  | n + 1, t, x, y, r, vx, vy, h, hx, hy, d + 1, hd => by
    have ih : ∀ t x y r vx vy, eqA P s n t x y = some r → VRel ρ x vx → VRel ρ y vy → (Op.equalIn d t vx vy).run P w = .ok r w :=
      fun t x y r vx vy h1 h2 h3 => eqA_run R n t x y r vx vy h1 h2 h3 d (by omega)
    unfold eqA at h
    split at h
    · rename_i hu; exact eqBool_run hu h hx hy d
    · rename_i hu; exact eqInt_run hu h hx hy d
    · rename_i hu; exact eqStr_run hu h hx hy d
    · rename_i hu; exact eqPtr_run R hu h hx hy d
    · rename_i hu; exact eqIfc_run hu h hx hy d
    · rename_i fields hu
      split at h
      · rename_i xs ys h1 h2
        split at h
        · simp at h
        · rename_i hb
          simp only [Bool.or_eq_true, Bool.not_eq_true', not_or, Bool.not_eq_true, Bool.not_eq_false] at hb
          obtain ⟨vs, rfl, hvs⟩ := aggOf_rel h1 hx
          obtain ⟨ws, rfl, hws⟩ := aggOf_rel h2 hy
          have hf : P.fieldsOf t = fields := by simp [Program.fieldsOf, hu]
          rw [run_equalIn_struct w d t _ _ (by rw [hf]; exact hu) hb.1, hf]
          exact eqFields_run (eqA P s n) d _ _ vs ws hvs hws ih _ r (noBlank_ne hb.2) h
      · simp at h
    · rename_i len elem hu
      split at h
      · rename_i xs ys h1 h2
        split at h
        · rename_i k hk
          obtain ⟨vs, rfl, hvs⟩ := aggOf_rel h1 hx
          obtain ⟨ws, rfl, hws⟩ := aggOf_rel h2 hy
          have hel := eqElems_run (eqA P s n) d elem k _ _ vs ws hvs hws ih len 0 r h
          simp only [Op.equalIn, Sem.run_bind, run_underlying hu, Result.andThen_ok, sizeA_run hk, Std.Legacy.Range.forIn_eq_forIn_range', Std.Legacy.Range.size, Nat.sub_zero, Nat.add_sub_cancel, Nat.div_one]
          rw [hel]
          cases r <;> simp
        · simp at h
      · simp at h
    · rename_i hu; exact eqSli_run hu h hx hy d
    · rename_i hu; exact eqMap_run hu h hx hy d
    · rename_i hu; exact eqFun_run hu h hx hy d
    · simp at h
end
end Go.Mini

namespace Go.Mini
open Go Go.RowKit

section
variable {P : Program} {B : Base} {ρ : Ren} {s : AS} {w : World}

theorem vrel_cells {x : AV} {v : Value} (h : VRel ρ x v) : VRels ρ x.cells v.cells.toList := by
  cases x with
  | agg cs =>
    rw [vrel_agg] at h
    obtain ⟨ws, rfl, hw⟩ := h
    simpa [AV.cells, Value.cells] using hw
  | bool b => rw [vrel_bool] at h; subst h; simp [AV.cells, Value.cells]
  | int k n => rw [vrel_int] at h; subst h; simp [AV.cells, Value.cells]
  | str s => rw [vrel_str] at h; subst h; simp [AV.cells, Value.cells]
  | nilPtr => rw [vrel_nilPtr] at h; subst h; simp [AV.cells, Value.cells]
  | nilSlice => rw [vrel_nilSlice] at h; subst h; simp [AV.cells, Value.cells]
  | nilMap => rw [vrel_nilMap] at h; subst h; simp [AV.cells, Value.cells]
  | nilFunc => rw [vrel_nilFunc] at h; subst h; simp [AV.cells, Value.cells]
  | nilIface => rw [vrel_nilIface] at h; subst h; simp [AV.cells, Value.cells]
  | ptr b o => have h' := h; rw [vrel_ptr] at h; obtain ⟨L, _, rfl⟩ := h; simpa [AV.cells, Value.cells] using h'
  | slice b o n c => have h' := h; rw [vrel_slice] at h; obtain ⟨_, rfl, _⟩ := h; simp only [AV.cells, Value.cells, vrels_cons, vrels_nil]; exact ⟨_, _, rfl, h', rfl⟩
  | osl b o n c => have h' := h; rw [vrel_osl] at h; obtain ⟨L, _, _, _, rfl, _⟩ := h; simp only [AV.cells, Value.cells, vrels_cons, vrels_nil]; exact ⟨_, _, rfl, h', rfl⟩
  | map b => have h' := h; rw [vrel_map] at h; obtain ⟨L, _, rfl⟩ := h; simpa [AV.cells, Value.cells] using h'
  | func f a c => have h' := h; rw [vrel_func] at h; obtain ⟨_, _, rfl, _⟩ := h; simp only [AV.cells, Value.cells, vrels_cons, vrels_nil]; exact ⟨_, _, rfl, h', rfl⟩
  | iface t y => have h' := h; rw [vrel_iface] at h; obtain ⟨_, rfl, _⟩ := h; simp only [AV.cells, Value.cells, vrels_cons, vrels_nil]; exact ⟨_, _, rfl, h', rfl⟩
  | tuple cs =>
    have h' := h
    rw [vrel_tuple] at h
    rcases h with ⟨_, hc⟩ | ⟨_, rfl, _⟩
    · rw [hc]; simp only [AV.cells, vrels_cons, vrels_nil]; exact ⟨_, _, rfl, h', rfl⟩
    · simp only [AV.cells, Value.cells, vrels_cons, vrels_nil]; exact ⟨_, _, rfl, h', rfl⟩

theorem splice_eq : ∀ {off : Nat} {vs cs r : List AV}, splice off vs cs = some r → off + vs.length ≤ cs.length ∧ r = cs.take off ++ (vs ++ cs.drop (off + vs.length))
  | 0, [], cs, r, h => by simp [splice] at h; simp [h]
  | 0, v :: vs, [], r, h => by simp [splice] at h
  | 0, v :: vs, c :: cs, r, h => by
    simp only [splice] at h
    split at h
    · rename_i l hl
      simp only [Option.some.injEq] at h
      obtain ⟨h1, h2⟩ := splice_eq hl
      subst h
      simp at h1
      refine ⟨by simp; omega, ?_⟩
      simp [h2, Nat.add_comm]
    · simp at h
  | n + 1, vs, [], r, h => by simp [splice] at h
  | n + 1, vs, c :: cs, r, h => by
    simp only [splice] at h
    split at h
    · rename_i l hl
      simp only [Option.some.injEq] at h
      obtain ⟨h1, h2⟩ := splice_eq hl
      subst h
      refine ⟨by simp; omega, ?_⟩
      have e : n + 1 + vs.length = (n + vs.length) + 1 := by omega
      rw [e]
      simp [h2]
    · simp at h

theorem fold_set : ∀ (vs : List Value) (off j : Nat) (cs : Array Value), off + j + vs.length ≤ cs.size →
    ((vs.zipIdx j).foldl (fun cs (x : Value × Nat) => cs.setIfInBounds (off + x.2) x.1) cs).toList = cs.toList.take (off + j) ++ (vs ++ cs.toList.drop (off + j + vs.length))
  | [], off, j, cs, _ => by simp
  | v :: vs, off, j, cs, h => by
    simp only [List.zipIdx_cons, List.foldl_cons]
    rw [fold_set vs off (j + 1) _ (by simp at h ⊢; omega)]
    simp only [Array.toList_setIfInBounds]
    have h1 : off + j < cs.toList.length := by simp at h ⊢; omega
    have e1 : (cs.toList.set (off + j) v).take (off + (j + 1)) = cs.toList.take (off + j) ++ [v] := by
      rw [show off + (j + 1) = off + j + 1 from by omega, List.take_succ_eq_append_getElem (by simpa using h1), List.take_set_of_le (Nat.le_refl _)]
      simp
    have e2 : (cs.toList.set (off + j) v).drop (off + (j + 1) + vs.length) = cs.toList.drop (off + j + (v :: vs).length) := by
      rw [List.drop_set_of_lt (by omega)]
      congr 1
      simp
      omega
    rw [e1, e2]
    simp

theorem VRels.splice {as cs : List AV} {vs ws : List Value} (off : Nat) (hc : VRels ρ cs ws) (ha : VRels ρ as vs) :
    VRels ρ (cs.take off ++ (as ++ cs.drop (off + as.length))) (ws.take off ++ (vs ++ ws.drop (off + vs.length))) := by
  rw [ha.length]
  exact (hc.take off).append (ha.append (hc.drop _))

theorem fillA_run {place : Nat → Option (Nat × Nat)} : ∀ {parts : List (Nat × AV)} {vals : List (Nat × Value)} {cs r : List AV} {arr : Array Value},
    fillA place cs parts = some r → PRels ρ parts vals → VRels ρ cs arr.toList → ∃ arr', Instr.fill place arr vals = some arr' ∧ VRels ρ r arr'.toList
  | [], vals, cs, r, arr, h, hp, hc => by
    simp only [fillA, Option.some.injEq] at h
    simp only [PRels] at hp
    subst h hp
    exact ⟨arr, rfl, hc⟩
  | (i, x) :: parts, vals, cs, r, arr, h, hp, hc => by
    simp only [PRels] at hp
    obtain ⟨v, ws, rfl, hx, hr⟩ := hp
    simp only [fillA] at h
    split at h
    · simp at h
    · rename_i off size hpl
      split at h
      · rename_i hsz
        split at h
        · rename_i cs' hs
          have hsz' : x.cells.length = size := by simpa using hsz
          obtain ⟨h1, h2⟩ := splice_eq hs
          have hvc := vrel_cells hx
          have hlen := hvc.length
          have hal := hc.length
          simp only [Array.length_toList] at hlen hal
          have hfold := fold_set v.cells.toList off 0 arr (by simp; omega)
          obtain ⟨arr', ha', hr'⟩ := fillA_run (arr := v.cells.zipIdx.foldl (fun cs (x : Value × Nat) => cs.setIfInBounds (off + x.2) x.1) arr) h hr (by
            rw [← Array.foldl_toList, Array.toList_zipIdx, hfold, h2]
            have := VRels.splice (ρ := ρ) off hc hvc
            simpa using this)
          refine ⟨arr', ?_, hr'⟩
          simp only [Instr.fill, hpl]
          rw [if_neg (by simp; omega)]
          exact ha'
        · simp at h
      · simp at h

theorem placesA_run : ∀ {fs : List Field} {l : List (Nat × Nat)}, placesA P fs = some l → ∀ w, (List.mapM (fun (f : Field) => Prod.mk f.offset <$> sizeOf f.type) fs : Sem (List (Nat × Nat))).run P w = .ok l w
  | [], l, h, w => by simp [placesA] at h; subst h; simp
  | f :: fs, l, h, w => by
    simp only [placesA] at h
    split at h
    · rename_i n hn
      split at h
      · rename_i l' hl
        simp only [Option.some.injEq] at h
        subst h
        simp [sizeA_run hn, placesA_run hl]
      · simp at h
    · simp at h

theorem build_run {t : TypeId} {parts : List (Nat × AV)} {vals : List (Nat × Value)} {x : AV} (h : buildA P t parts = some x) (hp : PRels ρ parts vals) (w : World) :
    ∃ v, (Instr.build t vals.toArray).run P w = .ok v w ∧ VRel ρ x v := by
  unfold buildA at h
  split at h
  · rename_i z fields hz hu
    obtain ⟨zv, _, hzr, hzv⟩ := zeroA_run hz
    split at h
    · rename_i places hpl
      split at h
      · rename_i cs hc
        simp only [Option.some.injEq] at h
        subst h
        obtain ⟨arr', ha, hr⟩ := fillA_run hc hp (vrel_cells (hzv ρ))
        refine ⟨.agg arr', ?_, by rw [vrel_agg]; exact ⟨arr'.toList, by simp, hr⟩⟩
        have hm : (Array.mapM (fun (f : Field) => Prod.mk f.offset <$> sizeOf f.type) fields : Sem (Array (Nat × Nat))).run P w = .ok places.toArray w := by
          rw [Array.mapM_eq_mapM_toList]
          simp [placesA_run hpl]
        have ha' : Instr.fill (fun i => places.toArray[i]?) zv.cells vals = some arr' := by simpa using ha
        simp [Instr.build, hzr, run_underlying hu, hm, ha]
      · simp at h
    · simp at h
  · rename_i z len elem hz hu
    obtain ⟨zv, _, hzr, hzv⟩ := zeroA_run hz
    split at h
    · rename_i size hs
      split at h
      · rename_i cs hc
        simp only [Option.some.injEq] at h
        subst h
        obtain ⟨arr', ha, hr⟩ := fillA_run hc hp (vrel_cells (hzv ρ))
        refine ⟨.agg arr', ?_, by rw [vrel_agg]; exact ⟨arr'.toList, by simp, hr⟩⟩
        simp only [Instr.build, Sem.run_bind, hzr, Result.andThen_ok, run_underlying hu, sizeA_run hs]
        simp [ha]
      · simp at h
    · simp at h
  · simp at h
end

section
variable {P : Program} {B : Base} {ρ : Ren} {s : AS} {w : World}

/-- Plain values: those that are the same here and there. -/
def plainV : AV → Value
  | .int k n => .int k n
  | .bool b => .bool b
  | .str s => .string s
  | _ => undef

theorem intOp_run {op : BinOp} {k : IntKind} {a b : Int} {r : AV} (t : TypeId) (h : intOpA op k a b = some r) : ∃ v, (binOp op t (.int k a) (.int k b)).run P w = .ok v w ∧ VRel ρ r v := by
  cases op <;> simp only [intOpA, Option.some.injEq, reduceCtorEq] at h
  case quo =>
    split at h
    · simp at h
    · rename_i hb
      simp only [Option.some.injEq] at h
      exact ⟨plainV r, by subst h; simp [binOp_quo, Op.intDiv, hb, plainV], by subst h; simp [plainV]⟩
  case rem =>
    split at h
    · simp at h
    · rename_i hb
      simp only [Option.some.injEq] at h
      exact ⟨plainV r, by subst h; simp [binOp_rem, Op.intDiv, hb, plainV], by subst h; simp [plainV]⟩
  all_goals
    refine ⟨plainV r, ?_, by subst h; simp [plainV]⟩
    subst h
    first
      | (simp only [binOp_add, Op.intArith, Sem.run_pure, plainV]; done)
      | (simp only [binOp_sub, Op.intArith, Sem.run_pure, plainV]; done)
      | (simp only [binOp_mul, Op.intArith, Sem.run_pure, plainV]; done)
      | (simp only [binOp_and, intBits_and, Sem.run_pure, plainV]; done)
      | (simp only [binOp_or, intBits_or, Sem.run_pure, plainV]; done)
      | (simp only [binOp_xor, intBits_xor, Sem.run_pure, plainV]; done)
      | (simp only [binOp_andNot, intBits_andNot, Sem.run_pure, plainV]; done)
      | (simp only [binOp_eql, Sem.run_pure, plainV]; done)
      | (simp only [binOp_neq, Sem.run_pure, plainV]; done)
      | (simp only [binOp_lss, Sem.run_pure, plainV]; done)
      | (simp only [binOp_leq, Sem.run_pure, plainV]; done)
      | (simp only [binOp_gtr, Sem.run_pure, plainV]; done)
      | (simp only [binOp_geq, Sem.run_pure, plainV]; done)

theorem shift_run {op : BinOp} {k yk : IntKind} {x y : Int} {r : AV} (h : shiftA op k x y = some r) : ∃ v, (Op.shift op k x yk y).run P w = .ok v w ∧ VRel ρ r v := by
  unfold shiftA at h
  split at h
  · simp at h
  · rename_i hy
    split at h <;> simp only [Option.some.injEq, reduceCtorEq] at h
    all_goals
      exact ⟨plainV r, by subst h; simp [Op.shift, hy, plainV], by subst h; simp [plainV]⟩

/-- What guards == says nothing of an operator that is none. -/
theorem eqGuard_pass {op : BinOp} (h1 : op ≠ .eql) (h2 : op ≠ .neq) (t : TypeId) (x y : Operand) (u v : Value) : eqGuard op t x y u v = pure () := by
  cases op <;> first | rfl | exact absurd rfl h1 | exact absurd rfl h2

theorem arith_run {op : BinOp} {x y r : AV} {vx vy : Value} (t : TypeId) (h : arithA op x y = some r) (hx : VRel ρ x vx) (hy : VRel ρ y vy) :
    ∃ v, (binOp op t vx vy).run P w = .ok v w ∧ VRel ρ r v := by
  unfold arithA at h
  split at h
  · simp only [vrel_int] at hx hy
    subst hx hy
    simp only [binOp_shl]
    exact shift_run h
  · simp only [vrel_int] at hx hy
    subst hx hy
    simp only [binOp_shr]
    exact shift_run h
  · simp only [vrel_int] at hx hy
    subst hx hy
    split at h
    · rename_i hk
      subst hk
      exact intOp_run t h
    · simp at h
  · simp at h

theorem unary_run {op : UnOp} {x r : AV} {vx : Value} (h : unaryA op x = some r) (hx : VRel ρ x vx) : ∃ v, (Op.unary op vx).run P w = .ok v w ∧ VRel ρ r v := by
  unfold unaryA at h
  split at h <;> simp only [Option.some.injEq, reduceCtorEq] at h
  all_goals
    refine ⟨plainV r, ?_, by subst h; simp [plainV]⟩
    subst h
    first | simp only [vrel_int] at hx | simp only [vrel_bool] at hx
    subst hx
    first
      | (simp [Op.unary, Op.intArith, plainV]; done)
      | (simp [Op.unary, intBits_xor, plainV]; done)
      | (simp [Op.unary, plainV]; done)

theorem convert_run {src dst : TypeId} {x r : AV} {vx : Value} (h : convertA P src dst x = some r) (hx : VRel ρ x vx) : ∃ v, (convert src dst vx).run P w = .ok v w ∧ VRel ρ r v := by
  unfold convertA at h
  split at h <;> simp only [Option.some.injEq, reduceCtorEq] at h
  · rename_i d k k' n h1 h2
    subst h
    simp only [vrel_int] at hx
    subst hx
    exact ⟨.int k (k.wrap n), by simp [convert, run_underlying h1, run_underlying h2, Conv.intToInt], by simp⟩
  · rename_i d b h1 h2
    subst h
    simp only [vrel_str] at hx
    subst hx
    exact ⟨.string b, by simp [convert, run_underlying h1, run_underlying h2], by simp⟩

theorem add_off (c x n : Nat) : (⟨c, x, none⟩ : Addr).add n = ⟨c, x + n, none⟩ := Addr.add_lit c x n

theorem fieldAddr_run {t : TypeId} {x r : AV} {f : Nat} {vx : Value} (h : fieldAddrA P t x f = some r) (hx : VRel ρ x vx) : ∃ v, (Instr.fieldAt t vx f).run P w = .ok v w ∧ VRel ρ r v := by
  unfold fieldAddrA at h
  split at h
  · rename_i fields b o hu
    rw [vrel_ptr] at hx
    obtain ⟨L, hL, rfl⟩ := hx
    split at h
    · rename_i fd hf
      split at h
      · rename_i k hk
        simp only [Option.some.injEq] at h
        subst h
        refine ⟨.pointer (some ⟨L.c, L.d + (o + fd.offset), none⟩), ?_, by rw [vrel_ptr]; exact ⟨L, hL, rfl⟩⟩
        simp [Instr.fieldAt, run_underlying hu, hf, Instr.sureAddr, fieldPlace, sizeA_run hk, add_off, Nat.add_assoc]
      · simp at h
    · simp at h
  · simp at h

theorem indexAddr_run {t : TypeId} {x i r : AV} {vx vi : Value} (h : indexAddrA P t x i = some r) (hx : VRel ρ x vx) (hi : VRel ρ i vi) : ∃ v, (Instr.indexAt t vx vi).run P w = .ok v w ∧ VRel ρ r v := by
  unfold indexAddrA at h
  split at h
  · rename_i k n
    simp only [vrel_int] at hi
    subst hi
    split at h
    · rename_i len elem b o hu
      rw [vrel_ptr] at hx
      obtain ⟨L, hL, rfl⟩ := hx
      split at h
      · rename_i sz hs
        split at h
        · rename_i hn
          simp only [Option.some.injEq] at h
          subst h
          refine ⟨.pointer (some ⟨L.c, L.d + (o + n.toNat * sz), none⟩), ?_, by rw [vrel_ptr]; exact ⟨L, hL, rfl⟩⟩
          simp [Instr.indexAt, asIntOf, run_underlying hu, Instr.sureAddr, hn, sizeA_run hs, add_off, Nat.add_assoc]
        · simp at h
      · simp at h
    · rename_i elem b o len cap hu
      rw [vrel_slice] at hx
      obtain ⟨y, rfl, hlc, hy⟩ := hx
      split at h
      · rename_i sz hs
        split at h
        · rename_i hn
          simp only [Option.some.injEq] at h
          subst h
          obtain ⟨L, hL, rfl⟩ := hy (by omega)
          refine ⟨.pointer (some ⟨L.c, L.d + (o + n.toNat * sz), none⟩), ?_, by rw [vrel_ptr]; exact ⟨L, hL, rfl⟩⟩
          simp [Instr.indexAt, asIntOf, run_underlying hu, hn, sizeA_run hs, add_off, Nat.add_assoc]
        · simp at h
      · simp at h
    · rename_i elem b o len esz hu
      rw [vrel_osl] at hx
      obtain ⟨L, y, k', hL, rfl, hlc, _, hy⟩ := hx
      split at h
      · rename_i sz hs
        split at h
        · rename_i hn
          simp only [Option.some.injEq] at h
          subst h
          have hy' : y = L.d + o := hy (by omega)
          subst hy'
          refine ⟨.pointer (some ⟨L.c, L.d + (o + n.toNat * sz), none⟩), ?_, by rw [vrel_ptr]; exact ⟨L, hL, rfl⟩⟩
          simp [Instr.indexAt, asIntOf, run_underlying hu, hn, sizeA_run hs, add_off, Nat.add_assoc]
        · simp at h
      · simp at h
    · simp at h
  · simp at h

theorem index_run {t : TypeId} {x i r : AV} {vx vi : Value} (h : indexA P t x i = some r) (hx : VRel ρ x vx) (hi : VRel ρ i vi) : ∃ v, (Instr.index t vx vi).run P w = .ok v w ∧ VRel ρ r v := by
  unfold indexA at h
  split at h
  · rename_i k n
    simp only [vrel_int] at hi
    subst hi
    split at h
    · rename_i len elem cs hu
      rw [vrel_agg] at hx
      obtain ⟨ws, rfl, hw⟩ := hx
      split at h
      · rename_i sz hs
        split at h
        · rename_i hn
          obtain ⟨v, hv, hr⟩ := part_run h hw w
          exact ⟨v, by simp [Instr.index, asIntOf, run_underlying hu, hn, sizeA_run hs, hv], hr⟩
        · simp at h
      · simp at h
    · rename_i b hu
      simp only [vrel_str] at hx
      subst hx
      split at h
      · rename_i hn
        split at h
        · rename_i c hc
          simp only [Option.some.injEq] at h
          subst h
          exact ⟨.int .u8 c.toNat, by simp [Instr.index, asIntOf, run_underlying hu, hn, hc], by simp⟩
        · simp at h
      · simp at h
    · simp at h
  · simp at h

theorem field_run {t : TypeId} {x r : AV} {f : Nat} {vx : Value} (h : fieldA P t x f = some r) (hx : VRel ρ x vx) : ∃ v, (Instr.field t vx f).run P w = .ok v w ∧ VRel ρ r v := by
  unfold fieldA at h
  split at h
  · rename_i fields cs hu
    rw [vrel_agg] at hx
    obtain ⟨ws, rfl, hw⟩ := hx
    split at h
    · rename_i fd hf
      obtain ⟨v, hv, hr⟩ := part_run h hw w
      exact ⟨v, by simp [Instr.field, run_underlying hu, hf, asAgg, hv], hr⟩
    · simp at h
  · simp at h

theorem typeAssert_run {x r : AV} {xt at_ : TypeId} {ok : Bool} {vx : Value} (h : typeAssertA P x at_ ok = some r) (hx : VRel ρ x vx) : ∃ v, (Instr.typeAssert vx xt at_ ok).run P w = .ok v w ∧ VRel ρ r v := by
  unfold typeAssertA at h
  split at h
  · simp at h
  · rename_i d hd hu
    have key : ∀ v, (∀ ms, d ≠ .interface ms) → (Instr.typeAssert v xt at_ ok).run P w = (match v with
        | .nilIface => (if ok then (do pure (.tuple #[← zeroValue at_, .bool false]) : Sem Value) else runtimePanic (.typeAssertion (some xt) none at_ "")).run P w
        | .iface t v' => if t = at_ then .ok (if ok then .tuple #[v', .bool true] else v') w else (if ok then (do pure (.tuple #[← zeroValue at_, .bool false]) : Sem Value) else runtimePanic (.typeAssertion (some xt) (some t) at_ "")).run P w
        | _ => .halt (.stuck "TypeAssert: interface value expected") w) := by
      intro v hne
      cases v <;> cases d <;> first | exact absurd rfl (hne _) | (simp [Instr.typeAssert, run_underlying hu]; done) | (simp [Instr.typeAssert, run_underlying hu]; split <;> simp; done)
    have hne : ∀ ms, d ≠ .interface ms := fun ms he => hd ms (by rw [← he])
    split at h
    · simp only [vrel_nilIface] at hx
      subst hx
      rw [key _ hne]
      split at h
      · rename_i hok
        split at h
        · rename_i z hz
          obtain ⟨zv, _, hzr, hzv⟩ := zeroA_run hz
          simp only [Option.some.injEq] at h
          subst h
          exact ⟨.tuple #[zv, .bool false], by simp [hok, hzr], by rw [vrel_tuple]; exact .inr ⟨[zv, .bool false], rfl, by simp [hzv]⟩⟩
        · simp at h
      · simp at h
    · rename_i t v
      rw [vrel_iface] at hx
      obtain ⟨y, rfl, hy⟩ := hx
      rw [key _ hne]
      split at h
      · rename_i ht
        have ht' : t = at_ := by simpa using ht
        simp only [Option.some.injEq] at h
        subst h
        refine ⟨if ok then .tuple #[y, .bool true] else y, by simp [ht'], ?_⟩
        split
        · rw [vrel_tuple]; exact .inr ⟨[y, .bool true], rfl, by simp [hy]⟩
        · exact hy
      · rename_i ht
        have ht' : t ≠ at_ := by simpa using ht
        split at h
        · rename_i hok
          split at h
          · rename_i z hz
            obtain ⟨zv, _, hzr, hzv⟩ := zeroA_run hz
            simp only [Option.some.injEq] at h
            subst h
            exact ⟨.tuple #[zv, .bool false], by simp [ht', hok, hzr], by rw [vrel_tuple]; exact .inr ⟨[zv, .bool false], rfl, by simp [hzv]⟩⟩
          · simp at h
        · simp at h
    · simp at h
  · simp at h
end
end Go.Mini

namespace Go.Mini
open Go Go.RowKit
section
variable {P : Program} {B : Base} {ρ : Ren} {s : AS} {w : World}

/-- A bound that is given, or not, here and there. -/
def BRel (ρ : Ren) (x : Option AV) (v : Option Value) : Prop :=
  match x with
  | none => v = none
  | some a => ∃ u, v = some u ∧ VRel ρ a u

theorem bound_run {x : AV} {d most n : Nat} {v : Value} {c : BoundsCode} (h : boundA (some x) d most = some n) (hx : VRel ρ x v) :
    (Instr.sliceBound v most c).run P w = .ok n w ∧ n ≤ most := by
  unfold boundA at h
  split at h
  · rename_i he; simp at he
  · rename_i k m he
    simp only [Option.some.injEq] at he
    subst he
    simp only [vrel_int] at hx
    subst hx
    split at h
    · rename_i hm
      simp only [Option.some.injEq] at h
      subst h
      exact ⟨by simp [Instr.sliceBound, asIntOf, hm], by omega⟩
    · simp at h
  · simp at h

theorem bounds_run {isS : Bool} {len cap m h l : Nat} {lo hi mx : Option AV} {vl vh vm : Option Value} (hm : boundA mx cap cap = some m) (hh : boundA hi len m = some h) (hl : boundA lo 0 h = some l)
    (hn : (mx.isSome && hi.isNone) = false) (r1 : BRel ρ lo vl) (r2 : BRel ρ hi vh) (r3 : BRel ρ mx vm) (hlen : hi = none → len ≤ m) :
    (Instr.sliceBounds isS len cap vl vh vm).run P w = .ok (l, h, m) w ∧ l ≤ h ∧ h ≤ m ∧ m ≤ cap := by
  have n1 : ∀ {x : Option AV} {d k n : Nat}, x = none → boundA x d k = some n → n = d := by
    intro x d k n hx hb
    subst hx
    simp [boundA] at hb
    exact hb.symm
  cases lo with
  | none =>
    simp only [BRel] at r1
    have e1 := n1 rfl hl
    cases hi with
    | none =>
      simp only [BRel] at r2
      have e2 := n1 rfl hh
      have hmx : mx = none := by cases mx <;> simp_all
      subst hmx
      simp only [BRel] at r3
      have e3 := n1 rfl hm
      subst r1 r2 r3 e1 e2 e3
      exact ⟨by simp [Instr.sliceBounds], Nat.zero_le _, hlen rfl, Nat.le_refl _⟩
    | some x =>
      obtain ⟨u, r2, hu⟩ := r2
      cases mx with
      | none =>
        simp only [BRel] at r3
        have e3 := n1 rfl hm
        subst r1 r2 r3 e1 e3
        have kb := fun c => bound_run (P := P) (w := w) (c := c) hh hu
        exact ⟨by simp [Instr.sliceBounds, (kb _).1], Nat.zero_le _, (kb .index).2, Nat.le_refl _⟩
      | some y =>
        obtain ⟨v, r3, hv⟩ := r3
        subst r1 r2 r3 e1
        have kb := fun c => bound_run (P := P) (w := w) (c := c) hh hu
        have km := fun c => bound_run (P := P) (w := w) (c := c) hm hv
        exact ⟨by simp [Instr.sliceBounds, (kb _).1, (km _).1], Nat.zero_le _, (kb .index).2, (km .index).2⟩
  | some z =>
    obtain ⟨q, r1, hq⟩ := r1
    have kl := fun c => bound_run (P := P) (w := w) (c := c) hl hq
    cases hi with
    | none =>
      simp only [BRel] at r2
      have e2 := n1 rfl hh
      have hmx : mx = none := by cases mx <;> simp_all
      subst hmx
      simp only [BRel] at r3
      have e3 := n1 rfl hm
      subst r1 r2 r3 e2 e3
      exact ⟨by simp [Instr.sliceBounds, (kl _).1], (kl .index).2, hlen rfl, Nat.le_refl _⟩
    | some x =>
      obtain ⟨u, r2, hu⟩ := r2
      cases mx with
      | none =>
        simp only [BRel] at r3
        have e3 := n1 rfl hm
        subst r1 r2 r3 e3
        have kb := fun c => bound_run (P := P) (w := w) (c := c) hh hu
        exact ⟨by simp [Instr.sliceBounds, (kb _).1, (kl _).1], (kl .index).2, (kb .index).2, Nat.le_refl _⟩
      | some y =>
        obtain ⟨v, r3, hv⟩ := r3
        subst r1 r2 r3
        have kb := fun c => bound_run (P := P) (w := w) (c := c) hh hu
        have km := fun c => bound_run (P := P) (w := w) (c := c) hm hv
        exact ⟨by simp [Instr.sliceBounds, (kb _).1, (km _).1, (kl _).1], (kl .index).2, (kb .index).2, (km .index).2⟩

theorem sliceAt_other {t : TypeId} {d : TypeDesc} (hu : P.underlying t = some d) (hd : ∀ n e, d ≠ .array n e) (v : Value) (lo hi mx : Option Value) :
    (Instr.sliceAt t v lo hi mx).run P w = (Instr.slice t v lo hi mx).run P w := by
  simp only [Instr.sliceAt, Sem.run_bind, run_underlying hu, Result.andThen_ok]

/-- The place where a row begins that is cut out of a row. -/
theorem cut_place (c x l m size : Nat) : ∃ y, (if m = l then (⟨c, x, none⟩ : Addr) else (⟨c, x, none⟩ : Addr).add (l * size)) = ⟨c, y, none⟩ ∧ (m ≠ l → y = x + l * size) ∧ (m = l → y = x) := by
  by_cases h : m = l
  · exact ⟨x, by simp [h], fun h' => absurd h h', fun _ => rfl⟩
  · exact ⟨x + l * size, by simp [h, add_off], fun _ => rfl, fun h' => absurd h' h⟩

theorem slice_nil_run {t elem : TypeId} {k m h l : Nat} {lo hi mx : Option AV} {vl vh vm : Option Value} (hu : P.underlying t = some (.slice elem)) (hs : sizeA P elem = some k)
    (hm : boundA mx 0 0 = some m) (hh : boundA hi 0 m = some h) (hl : boundA lo 0 h = some l) (hn : (mx.isSome && hi.isNone) = false) (r1 : BRel ρ lo vl) (r2 : BRel ρ hi vh) (r3 : BRel ρ mx vm) :
    (Instr.sliceAt t (.slice none 0 0) vl vh vm).run P w = .ok (.slice none 0 0) w := by
  obtain ⟨hb, h1, h2, h3⟩ := bounds_run (P := P) (w := w) (isS := true) hm hh hl hn r1 r2 r3 (fun _ => Nat.zero_le _)
  have : m = 0 := by omega
  have : h = 0 := by omega
  have : l = 0 := by omega
  subst_vars
  rw [sliceAt_other hu (by simp)]
  simp [Instr.slice, run_underlying hu, hb, sizeA_run hs]

theorem slice_slice_run {t elem : TypeId} {size c x len cap m h l : Nat} {lo hi mx : Option AV} {vl vh vm : Option Value} (hu : P.underlying t = some (.slice elem)) (hs : sizeA P elem = some size)
    (hm : boundA mx cap cap = some m) (hh : boundA hi len m = some h) (hl : boundA lo 0 h = some l) (hn : (mx.isSome && hi.isNone) = false) (r1 : BRel ρ lo vl) (r2 : BRel ρ hi vh) (r3 : BRel ρ mx vm) (hlen : hi = none → len ≤ m) :
    (∃ y, (Instr.sliceAt t (.slice (some ⟨c, x, none⟩) len cap) vl vh vm).run P w = .ok (.slice (some ⟨c, y, none⟩) (h - l) (m - l)) w ∧ (m ≠ l → y = x + l * size) ∧ (m = l → y = x)) ∧ l ≤ h ∧ h ≤ m ∧ m ≤ cap := by
  obtain ⟨hb, h1, h2, h3⟩ := bounds_run (P := P) (w := w) (isS := true) hm hh hl hn r1 r2 r3 hlen
  obtain ⟨y, hy, hy1, hy2⟩ := cut_place c x l m size
  refine ⟨⟨y, ?_, hy1, hy2⟩, h1, h2, h3⟩
  rw [sliceAt_other hu (by simp)]
  simp only [Instr.slice, Sem.run_bind, run_underlying hu, Result.andThen_ok, hb, sizeA_run hs, Sem.run_pure, Option.map_some]
  rw [← hy]
  split <;> rfl

theorem slice_slice_any {t elem : TypeId} {size len cap m h l : Nat} {a : Addr} {lo hi mx : Option AV} {vl vh vm : Option Value} (hu : P.underlying t = some (.slice elem)) (hs : sizeA P elem = some size)
    (hm : boundA mx cap cap = some m) (hh : boundA hi len m = some h) (hl : boundA lo 0 h = some l) (hn : (mx.isSome && hi.isNone) = false) (r1 : BRel ρ lo vl) (r2 : BRel ρ hi vh) (r3 : BRel ρ mx vm) (hlen : hi = none → len ≤ m) :
    (∃ y, (Instr.sliceAt t (.slice (some a) len cap) vl vh vm).run P w = .ok (.slice (some y) (h - l) (m - l)) w ∧ (m ≠ l → y = a.add (l * size))) ∧ l ≤ h ∧ h ≤ m ∧ m ≤ cap := by
  obtain ⟨hb, h1, h2, h3⟩ := bounds_run (P := P) (w := w) (isS := true) hm hh hl hn r1 r2 r3 hlen
  refine ⟨⟨if m = l then a else a.add (l * size), ?_, fun h => by rw [if_neg h]⟩, h1, h2, h3⟩
  rw [sliceAt_other hu (by simp)]
  simp only [Instr.slice, Sem.run_bind, run_underlying hu, Result.andThen_ok, hb, sizeA_run hs, Sem.run_pure, Option.map_some]
  split <;> rfl

theorem slice_array_run {t elem : TypeId} {n size c x m h l : Nat} {lo hi mx : Option AV} {vl vh vm : Option Value} (hu : P.underlying t = some (.array n elem)) (hs : sizeA P elem = some size)
    (hm : boundA mx n n = some m) (hh : boundA hi n m = some h) (hl : boundA lo 0 h = some l) (hn : (mx.isSome && hi.isNone) = false) (r1 : BRel ρ lo vl) (r2 : BRel ρ hi vh) (r3 : BRel ρ mx vm) :
    (∃ y, (Instr.sliceAt t (.pointer (some ⟨c, x, none⟩)) vl vh vm).run P w = .ok (.slice (some ⟨c, y, none⟩) (h - l) (m - l)) w ∧ (m ≠ l → y = x + l * size) ∧ (m = l → y = x)) ∧ l ≤ h ∧ h ≤ m ∧ m ≤ n := by
  have hlen : hi = none → n ≤ m := by
    intro hi0
    have : mx = none := by subst hi0; cases mx <;> simp_all
    subst this
    simp [boundA] at hm
    omega
  obtain ⟨hb, h1, h2, h3⟩ := bounds_run (P := P) (w := w) (isS := false) hm hh hl hn r1 r2 r3 hlen
  obtain ⟨y, hy, hy1, hy2⟩ := cut_place c x l m size
  refine ⟨⟨y, ?_, hy1, hy2⟩, h1, h2, h3⟩
  simp only [Instr.sliceAt, Sem.run_bind, run_underlying hu, Result.andThen_ok, Instr.sureAddr, Sem.run_pure, hb, sizeA_run hs]
  rw [← hy]

theorem slice_ptr_run {t arr elem : TypeId} {n size c x m h l : Nat} {lo hi mx : Option AV} {vl vh vm : Option Value} (hu : P.underlying t = some (.pointer arr)) (hu2 : P.underlying arr = some (.array n elem)) (hs : sizeA P elem = some size)
    (hm : boundA mx n n = some m) (hh : boundA hi n m = some h) (hl : boundA lo 0 h = some l) (hn : (mx.isSome && hi.isNone) = false) (r1 : BRel ρ lo vl) (r2 : BRel ρ hi vh) (r3 : BRel ρ mx vm) :
    (∃ y, (Instr.sliceAt t (.pointer (some ⟨c, x, none⟩)) vl vh vm).run P w = .ok (.slice (some ⟨c, y, none⟩) (h - l) (m - l)) w ∧ (m ≠ l → y = x + l * size) ∧ (m = l → y = x)) ∧ l ≤ h ∧ h ≤ m ∧ m ≤ n := by
  have hlen : hi = none → n ≤ m := by
    intro hi0
    have : mx = none := by subst hi0; cases mx <;> simp_all
    subst this
    simp [boundA] at hm
    omega
  obtain ⟨hb, h1, h2, h3⟩ := bounds_run (P := P) (w := w) (isS := false) hm hh hl hn r1 r2 r3 hlen
  obtain ⟨y, hy, hy1, hy2⟩ := cut_place c x l m size
  refine ⟨⟨y, ?_, hy1, hy2⟩, h1, h2, h3⟩
  rw [sliceAt_other hu (by simp)]
  simp only [Instr.slice, Sem.run_bind, run_underlying hu, run_underlying hu2, Result.andThen_ok, asAddr, Sem.run_pure, hb, sizeA_run hs]
  rw [← hy]

theorem slice_str_run {t : TypeId} {b : ByteArray} {h l : Nat} {lo hi : Option AV} {vl vh : Option Value} (hu : P.underlying t = some .string)
    (hh : boundA hi b.size b.size = some h) (hl : boundA lo 0 h = some l) (r1 : BRel ρ lo vl) (r2 : BRel ρ hi vh) :
    (Instr.sliceAt t (.string b) vl vh none).run P w = .ok (.string (b.extract l h)) w := by
  obtain ⟨hb, _⟩ := bounds_run (P := P) (w := w) (isS := false) (cap := b.size) (len := b.size) (mx := none) (vm := none) (by simp [boundA]) hh hl (by simp) r1 r2 (by simp [BRel]) (fun _ => Nat.le_refl _)
  rw [sliceAt_other hu (by simp)]
  simp [Instr.slice, run_underlying hu, hb]

theorem slice_run {t : TypeId} {x r : AV} {lo hi mx : Option AV} {vx : Value} {vl vh vm : Option Value} (h : sliceA P t x lo hi mx = some r) (hx : VRel ρ x vx)
    (r1 : BRel ρ lo vl) (r2 : BRel ρ hi vh) (r3 : BRel ρ mx vm) : ∃ v, (Instr.sliceAt t vx vl vh vm).run P w = .ok v w ∧ VRel ρ r v := by
  unfold sliceA at h
  split at h
  · rename_i e hu
    simp only [vrel_nilSlice] at hx
    subst hx
    split at h
    · rename_i k hk
      split at h
      · rename_i m hm
        split at h
        · rename_i hh' hh
          split at h
          · rename_i l hl
            split at h
            · simp at h
            · rename_i hn
              simp only [Option.some.injEq] at h
              subst h
              exact ⟨_, slice_nil_run hu hk hm hh hl ((Bool.not_eq_true _).mp hn) r1 r2 r3, by simp⟩
          · simp at h
        · simp at h
      · simp at h
    · simp at h
  · rename_i e b o len cap hu
    rw [vrel_slice] at hx
    obtain ⟨x, rfl, hlc, hxo⟩ := hx
    split at h
    · rename_i size hk
      split at h
      · rename_i m hm
        split at h
        · rename_i hh' hh
          split at h
          · rename_i l hl
            split at h
            · simp at h
            · rename_i hn
              simp only [Option.some.injEq] at h
              have hn' : (mx.isSome && hi.isNone) = false := (Bool.not_eq_true _).mp hn
              have hlen : hi = none → len ≤ m := by
                intro hi0
                have : mx = none := by subst hi0; cases mx <;> simp_all
                subst this
                simp [boundA] at hm
                omega
              obtain ⟨⟨y, hrun, hy1⟩, h1, h2, h3⟩ := slice_slice_any (P := P) (w := w) (a := x) hu hk hm hh hl hn' r1 r2 r3 hlen
              subst h
              refine ⟨_, hrun, ?_⟩
              rw [vrel_slice]
              refine ⟨_, rfl, by omega, fun hc => ?_⟩
              obtain ⟨L, hL, rfl⟩ := hxo (by omega)
              exact ⟨L, hL, by rw [hy1 (by omega), add_off, Nat.add_assoc]⟩
          · simp at h
        · simp at h
      · simp at h
    · simp at h
  · rename_i e b o len esz hu
    rw [vrel_osl] at hx
    obtain ⟨L, x, k, hL, rfl, hlc, hsz, hxo⟩ := hx
    split at h
    · rename_i size hk
      split at h
      · rename_i he
        have he' : size = esz := by simpa using he
        subst he'
        split at h
        · rename_i hh' hh
          split at h
          · rename_i l hl
            simp only [Option.some.injEq] at h
            simp only [BRel] at r3
            subst r3
            have hh2 : boundA hi len k = some hh' := by
              unfold boundA at hh ⊢
              cases hi with
              | none => simpa using hh
              | some z =>
                cases z <;> simp only [reduceCtorEq, Option.ite_none_right_eq_some, Option.some.injEq] at hh ⊢
                exact ⟨by omega, hh.2⟩
            have hle : hh' ≤ len := by
              unfold boundA at hh
              cases hi with
              | none => simp at hh; omega
              | some z =>
                cases z <;> simp only [reduceCtorEq, Option.ite_none_right_eq_some, Option.some.injEq] at hh
                omega
            obtain ⟨⟨y, hrun, hy1, hy2⟩, h1, h2, h3⟩ := slice_slice_run (P := P) (w := w) (c := L.c) (x := x) (cap := k) (m := k) (mx := none) (vm := none) hu hk (by simp [boundA]) hh2 hl (by simp) r1 r2 (by simp [BRel]) (fun _ => hlc)
            subst h
            refine ⟨_, hrun, ?_⟩
            rw [vrel_osl]
            refine ⟨L, y, k - l, hL, rfl, by omega, ?_, fun hc => ?_⟩
            · by_cases hkl : k = l
              · rw [hy2 hkl, hkl]
                simp
                have : 0 ≤ k * size := Nat.zero_le _
                omega
              · rw [hy1 hkl, Nat.add_assoc, ← Nat.add_mul]
                rw [show l + (k - l) = k from by omega]
                exact hsz
            · rw [hy1 (by omega), hxo (by omega), Nat.add_assoc]
          · simp at h
        · simp at h
      · simp at h
    · rename_i size mv hk
      split at h
      · rename_i m hv hm
        split at h
        · rename_i hh' hh
          split at h
          · rename_i l hl
            simp only [Option.some.injEq] at h
            have hm2 : boundA (some mv) k k = some m := by
              unfold boundA at hm ⊢
              cases mv <;> simp only [reduceCtorEq, Option.ite_none_right_eq_some, Option.some.injEq] at hm ⊢
              exact ⟨by omega, hm.2⟩
            have hh2 : boundA (some hv) len m = some hh' := by
              unfold boundA at hh ⊢
              cases hv <;> simp only [reduceCtorEq, Option.ite_none_right_eq_some, Option.some.injEq] at hh ⊢
              exact hh
            have hmle : m ≤ len := by
              unfold boundA at hm
              cases mv <;> simp only [reduceCtorEq, Option.ite_none_right_eq_some, Option.some.injEq] at hm
              omega
            obtain ⟨⟨y, hrun, hy1, hy2⟩, h1, h2, h3⟩ := slice_slice_run (P := P) (w := w) (c := L.c) (x := x) (cap := k) hu hk hm2 hh2 hl (by simp) r1 r2 r3 (fun h0 => by simp at h0)
            subst h
            refine ⟨_, hrun, ?_⟩
            rw [vrel_slice]
            refine ⟨_, rfl, by omega, fun hc => ⟨L, hL, ?_⟩⟩
            rw [hy1 (by omega), hxo (by omega), Nat.add_assoc]
          · simp at h
        · simp at h
      · simp at h
    · simp at h
  · rename_i n e b o hu
    rw [vrel_ptr] at hx
    obtain ⟨L, hL, rfl⟩ := hx
    split at h
    · rename_i size hk
      split at h
      · rename_i m hm
        split at h
        · rename_i hh' hh
          split at h
          · rename_i l hl
            split at h
            · simp at h
            · rename_i hn
              simp only [Option.some.injEq] at h
              obtain ⟨⟨y, hrun, hy1, hy2⟩, h1, h2, h3⟩ := slice_array_run (P := P) (w := w) (c := L.c) (x := L.d + o) hu hk hm hh hl ((Bool.not_eq_true _).mp hn) r1 r2 r3
              subst h
              refine ⟨_, hrun, ?_⟩
              rw [vrel_slice]
              refine ⟨_, rfl, by omega, fun hc => ⟨L, hL, ?_⟩⟩
              rw [hy1 (by omega), Nat.add_assoc]
          · simp at h
        · simp at h
      · simp at h
    · simp at h
  · rename_i arr b o hu
    rw [vrel_ptr] at hx
    obtain ⟨L, hL, rfl⟩ := hx
    split at h
    · rename_i n e hu2
      split at h
      · rename_i size hk
        split at h
        · rename_i m hm
          split at h
          · rename_i hh' hh
            split at h
            · rename_i l hl
              split at h
              · simp at h
              · rename_i hn
                simp only [Option.some.injEq] at h
                obtain ⟨⟨y, hrun, hy1, hy2⟩, h1, h2, h3⟩ := slice_ptr_run (P := P) (w := w) (c := L.c) (x := L.d + o) hu hu2 hk hm hh hl ((Bool.not_eq_true _).mp hn) r1 r2 r3
                subst h
                refine ⟨_, hrun, ?_⟩
                rw [vrel_slice]
                refine ⟨_, rfl, by omega, fun hc => ⟨L, hL, ?_⟩⟩
                rw [hy1 (by omega), Nat.add_assoc]
            · simp at h
          · simp at h
        · simp at h
      · simp at h
    · simp at h
  · rename_i b hu
    simp only [vrel_str] at hx
    subst hx
    split at h
    · simp at h
    · rename_i hmx
      have hmx' : mx = none := by cases mx <;> simp_all
      subst hmx'
      simp only [BRel] at r3
      subst r3
      split at h
      · rename_i hh' hh
        split at h
        · rename_i l hl
          simp only [Option.some.injEq] at h
          subst h
          exact ⟨_, slice_str_run hu hh hl r1 r2, by simp⟩
        · simp at h
      · simp at h
  · simp at h

/-! ### reads -/
theorem vrel_inv_nilIface {x : AV} (hj : ∀ l, x ≠ .tuple l) (h : VRel ρ x .nilIface) : x = .nilIface := by
  cases x <;> simp at h ⊢
  exact hj _ rfl
theorem vrel_inv_agg {x : AV} {cs : Array Value} (hj : ∀ l, x ≠ .tuple l) (h : VRel ρ x (.agg cs)) : ∃ xs, x = .agg xs := by
  cases x <;> simp at h ⊢
  exact hj _ rfl
theorem vrel_inv_int {x : AV} {k : IntKind} {n : Int} (hj : ∀ l, x ≠ .tuple l) (h : VRel ρ x (.int k n)) : x = .int k n := by
  cases x <;> simp at h ⊢
  · exact ⟨h.1.symm, h.2.symm⟩
  · exact hj _ rfl
theorem vrel_inv_string {x : AV} {b : ByteArray} (hj : ∀ l, x ≠ .tuple l) (h : VRel ρ x (.string b)) : x = .str b := by
  cases x <;> simp at h ⊢
  · exact h.symm
  · exact hj _ rfl
theorem eqA_nj {d : Nat} {t : TypeId} {x y : AV} {r : Bool} (h : eqA P s d t x y = some r) : (∀ l, x ≠ .tuple l) ∧ (∀ l, y ≠ .tuple l) := by
  cases d with
  | zero => simp [eqA] at h
  | succ d =>
    unfold eqA at h
    constructor
    · rintro l rfl
      split at h <;> first
        | (cases y <;> simp [eqBool, eqInt, eqStr, eqPtr, eqIfc, eqSli, eqMap, eqFun, aggOf] at h; done)
        | (simp at h; done)
    · rintro l rfl
      split at h <;> first
        | (cases x <;> simp [eqBool, eqInt, eqStr, eqPtr, eqIfc, eqSli, eqMap, eqFun, aggOf] at h; done)
        | (simp at h; done)

theorem guard_run {op : BinOp} {t : TypeId} {x y : AV} {vx vy : Value} (jx : ∀ l, x ≠ .tuple l) (jy : ∀ l, y ≠ .tuple l) (h : guardA P t x y = true) (hx : VRel ρ x vx) (hy : VRel ρ y vy) (ox oy : Operand) :
    (eqGuard op t ox oy vx vy).run P w = .ok () w := by
  unfold guardA at h
  split at h
  · rw [vrel_agg] at hx hy
    obtain ⟨_, rfl, _⟩ := hx
    obtain ⟨_, rfl, _⟩ := hy
    exact run_eqGuard_agg w op t ox oy _ _ (by simpa using h)
  · simp at h
  · rename_i h1 h2
    unfold eqGuard
    generalize (!(match op with
      | .eql => true
      | .neq => true
      | _ => false)) = g
    cases vx <;> first
      | (cases g <;> simp; done)
      | (have e1 := vrel_inv_nilIface jx hx
         cases vy <;> first
          | (cases g <;> simp; done)
          | exact absurd (vrel_inv_nilIface jy hy) (fun e2 => h2 e1 e2))
      | (obtain ⟨_, e1⟩ := vrel_inv_agg jx hx
         cases vy <;> first
          | (cases g <;> simp; done)
          | (obtain ⟨_, e2⟩ := vrel_inv_agg jy hy; exact absurd e2 (fun e2 => h1 _ _ e1 e2)))

theorem eql_run (R : Rel P B ρ s w) {t : TypeId} {x y : AV} {r : Bool} {vx vy : Value} (h : eqlA P s t x y = some r) (hx : VRel ρ x vx) (hy : VRel ρ y vy) (ox oy : Operand)
    (hi : ∀ k n, x ≠ .int k n) (hs : ∀ b, x ≠ .str b) :
    ((do eqGuard .eql t ox oy vx vy; binOp .eql t vx vy) : Sem Value).run P w = .ok (.bool r) w ∧ ((do eqGuard .neq t ox oy vx vy; binOp .neq t vx vy) : Sem Value).run P w = .ok (.bool !r) w := by
  unfold eqlA at h
  split at h
  · rename_i hg
    obtain ⟨jx, jy⟩ := eqA_nj h
    have h1 := guard_run (w := w) (op := .eql) jx jy hg hx hy ox oy
    have h2 := guard_run (w := w) (op := .neq) jx jy hg hx hy ox oy
    have he := eqA_run R 8 t x y r vx vy h hx hy Op.maxDepth (by simp [Op.maxDepth])
    have ni : ∀ k n, vx ≠ .int k n := fun k n e => hi k n (vrel_inv_int jx (e ▸ hx))
    have ns : ∀ b, vx ≠ .string b := fun b e => hs b (vrel_inv_string jx (e ▸ hx))
    have nf : ∀ k b, vx ≠ .float k b := fun k b e => by subst e; cases x <;> simp at hx; exact jx _ rfl
    have nc : ∀ k a b, vx ≠ .complex k a b := fun k a b e => by subst e; cases x <;> simp at hx; exact jx _ rfl
    have b1 : binOp .eql t vx vy = (do pure (.bool (← Op.equal t vx vy))) := by
      cases vx <;> first | rfl | exact absurd rfl (ni _ _) | exact absurd rfl (ns _) | exact absurd rfl (nf _ _) | exact absurd rfl (nc _ _ _)
    have b2 : binOp .neq t vx vy = (do pure (.bool (!(← Op.equal t vx vy)))) := by
      cases vx <;> first | rfl | exact absurd rfl (ni _ _) | exact absurd rfl (ns _) | exact absurd rfl (nf _ _) | exact absurd rfl (nc _ _ _)
    constructor
    · simp only [Sem.run_bind, h1, Result.andThen_ok, b1, Op.equal, he, Sem.run_pure]
    · simp only [Sem.run_bind, h2, Result.andThen_ok, b2, Op.equal, he, Sem.run_pure]
  · simp at h
theorem guard_nil {op : BinOp} {t : TypeId} {ox oy : Operand} (h : (constO ox || constO oy) = true) : (eqGuard op t ox oy .nilIface .nilIface).run P w = .ok () w := by
  cases ox <;> cases oy <;> first
    | (simp [constO] at h; done)
    | (cases op <;> simp [eqGuard])
theorem eqlO_run (R : Rel P B ρ s w) {t : TypeId} {x y : AV} {ox oy : Operand} {r : Bool} {vx vy : Value} (h : eqlO P s t ox oy x y = some r) (hx : VRel ρ x vx) (hy : VRel ρ y vy)
    (hi : ∀ k n, x ≠ .int k n) (hs : ∀ b, x ≠ .str b) :
    ((do eqGuard .eql t ox oy vx vy; binOp .eql t vx vy) : Sem Value).run P w = .ok (.bool r) w ∧ ((do eqGuard .neq t ox oy vx vy; binOp .neq t vx vy) : Sem Value).run P w = .ok (.bool !r) w := by
  unfold eqlO at h
  split at h
  · rename_i hc
    simp only [Bool.and_eq_true] at hc
    have ex : x = .nilIface := by cases x <;> first | rfl | simp [nilBoth] at hc
    subst ex
    have ey : y = .nilIface := by cases y <;> first | rfl | simp [nilBoth] at hc
    subst ey
    have he := eqA_run R 8 t _ _ r vx vy h hx hy Op.maxDepth (by simp [Op.maxDepth])
    simp only [vrel_nilIface] at hx hy
    subst hx hy
    constructor
    · simp only [Sem.run_bind, guard_nil hc.2, Result.andThen_ok, binOp, Op.equal, he, Sem.run_pure]
    · simp only [Sem.run_bind, guard_nil hc.2, Result.andThen_ok, binOp, Op.equal, he, Sem.run_pure]
  · exact eql_run R h hx hy ox oy hi hs
end
end Go.Mini

namespace Go.Mini
open Go Go.RowKit
section
variable {P : Program} {B : Base} {ρ : Ren} {s : AS} {w : World}

theorem cell_of {c : Nat} {arr : Array Value} {e : TypeId} {fz : Nat × Nat} (h : w.heap[c]? = some (.cells arr e fz)) (x : Nat) : w.cell? ⟨c, x, none⟩ = arr[x]? := by
  simp [World.cell?, h]

theorem loadCellsFrom_run {c x : Nat} : ∀ (vs : List Value) (i : Nat) (acc : Array Value), (∀ j v, vs[j]? = some v → w.cell? ⟨c, x + (i + j), none⟩ = some v) →
    (loadCellsFrom ⟨c, x, none⟩ i vs.length acc).run P w = .ok (acc ++ vs.toArray) w
  | [], i, acc, _ => by simp [loadCellsFrom]
  | v :: vs, i, acc, h => by
    have h0 := h 0 v (by simp)
    have ih := loadCellsFrom_run vs (i + 1) (acc.push v) (fun j u hj => by
      have := h (j + 1) u (by simpa using hj)
      rw [show i + 1 + j = i + (j + 1) from by omega]
      exact this)
    simp only [List.length_cons, loadCellsFrom, Sem.run_bind, run_load, add_off]
    rw [show x + i = x + (i + 0) from rfl, h0]
    simp only [Result.andThen_ok]
    rw [ih]
    simp

theorem read_run (R : Rel P B ρ s w) {b o n : Nat} {l : List AV} {L : Loc} (h : readA s b o n = some l) (hL : ρ b = some L) :
    ∃ vs : List Value, (loadCells ⟨L.c, L.d + o, none⟩ n).run P w = .ok vs.toArray w ∧ VRels ρ l vs ∧ vs.length = n ∧ ∀ j v, vs[j]? = some v → w.cell? ⟨L.c, L.d + o + j, none⟩ = some v := by
  unfold readA at h
  split at h
  · rename_i ro cs hb
    obtain ⟨arr, e, fz, h1, h2, h3, vs, h4, h5⟩ := Rel.row (R := R) hb hL
    obtain ⟨k1, k2⟩ := takeN_eq h
    subst k1
    have hc : ∀ j v, ((vs.drop o).take n)[j]? = some v → w.cell? ⟨L.c, L.d + o + (0 + j), none⟩ = some v := by
      intro j v hj
      rw [List.getElem?_take] at hj
      split at hj
      · rw [List.getElem?_drop] at hj
        rw [cell_of h1, Nat.zero_add, Nat.add_assoc]
        exact h5 _ _ hj
      · simp at hj
    have hlen : ((vs.drop o).take n).length = n := by
      have := h4.length
      simp at k2
      simp
      omega
    refine ⟨(vs.drop o).take n, ?_, (h4.drop o).take n, hlen, fun j v hj => by simpa using hc j v hj⟩
    have := loadCellsFrom_run (P := P) ((vs.drop o).take n) 0 #[] hc
    rw [hlen] at this
    simpa [loadCells] using this
  · simp at h

theorem load_run (R : Rel P B ρ s w) {t : TypeId} {p r : AV} {v : Value} (h : loadA P s t p = some r) (hp : VRel ρ p v) : ∃ u, (Instr.loadAt t v).run P w = .ok u w ∧ VRel ρ r u := by
  unfold loadA at h
  split at h
  · rename_i b o
    rw [vrel_ptr] at hp
    obtain ⟨L, hL, rfl⟩ := hp
    split at h
    · rename_i ha
      split at h
      · rename_i n hn
        split at h
        · rename_i l hl
          simp only [Option.some.injEq] at h
          subst h
          obtain ⟨vs, h1, h2, _⟩ := read_run R hl hL
          refine ⟨.agg vs.toArray, ?_, by rw [vrel_agg]; exact ⟨vs, rfl, h2⟩⟩
          simp [Instr.loadAt, Instr.sureAddr, loadVar, isAggA_run ha, sizeA_run hn, h1]
        · simp at h
      · simp at h
    · rename_i ha
      split at h
      · rename_i ro cs hb
        obtain ⟨arr, e, fz, h1, h2, h3, vs, h4, h5⟩ := Rel.row (R := R) hb hL
        obtain ⟨u, hu, hr⟩ := h4.get h
        refine ⟨u, ?_, hr⟩
        have hc : w.cell? ⟨L.c, L.d + o, none⟩ = some u := by rw [cell_of h1]; exact h5 _ _ hu
        simp [Instr.loadAt, Instr.sureAddr, loadVar, isAggA_run ha, hc]
      · simp at h
    · simp at h
  · simp at h

/-! ### maps -/
theorem mapOf_run (R : Rel P B ρ s w) {b : Nat} {es : List (AV × AV)} {L : Loc} (h : mapOf s b = some es) (hL : ρ b = some L) :
    ∃ ents clk, w.heap[L.c]? = some (.map ents clk) ∧ ERel ρ es ents.toList := by
  unfold mapOf at h
  split at h
  · rename_i es' bn ck hb
    simp only [Option.some.injEq] at h
    subst h
    obtain ⟨c, hc, ents, rfl, he, _⟩ := R.obj _ _ _ hb hL
    exact ⟨ents, _, hc, he⟩
  · simp at h
theorem mapAt_run (R : Rel P B ρ s w) {b ck : Nat} {es : List (AV × AV)} {bn : List Nat} {L : Loc} (h : mapAt s b = some (es, bn, ck)) (hL : ρ b = some L) :
    ∃ ents, w.heap[L.c]? = some (.map ents ck) ∧ ERel ρ es ents.toList ∧ ents.toList.map (·.born) = bn := by
  unfold mapAt at h
  split at h
  · rename_i es' bn' ck' hb
    simp only [Option.some.injEq, Prod.mk.injEq] at h
    obtain ⟨rfl, rfl, rfl⟩ := h
    obtain ⟨c, hc, ents, rfl, he⟩ := R.obj _ _ _ hb hL
    exact ⟨ents, hc, he⟩
  · simp at h

theorem getObj_run {r : Nat} {o : Obj} (h : w.heap[r]? = some o) (hc : ∀ a e f, o ≠ .cells a e f) : (getObj r).run P w = .ok o w := by
  cases o <;> first | exact absurd rfl (hc _ _ _) | simp [getObj, Sem.run, h]

theorem ERel.get : ∀ {es : List (AV × AV)} {l : List MapEntry}, ERel ρ es l → ∀ {i : Nat} {k v : AV}, es[i]? = some (k, v) → ∃ e, l[i]? = some e ∧ VRel ρ k e.key ∧ VRel ρ v e.val
  | [], _, _, i, k, v, h => by simp at h
  | (a, b) :: es, l, h, i, k, v, hi => by
    obtain ⟨e, r, rfl, h1, h2, h3⟩ := h
    cases i with
    | zero => simp only [List.getElem?_cons_zero, Option.some.injEq, Prod.mk.injEq] at hi; obtain ⟨rfl, rfl⟩ := hi; exact ⟨e, by simp, h1, h2⟩
    | succ i => simp only [List.getElem?_cons_succ] at hi; simpa using ERel.get h3 hi
theorem ERel.length : ∀ {es : List (AV × AV)} {l : List MapEntry}, ERel ρ es l → l.length = es.length
  | [], _, h => by simp [ERel] at h; simp [h]
  | (a, b) :: es, l, h => by
    obtain ⟨e, r, rfl, _, _, h3⟩ := h
    simp [ERel.length h3]

/-- A key that keyA lets by is asked of nothing. -/
theorem keyA_run : ∀ (n : Nat) (t : TypeId) (k : AV) (v : Value) (e : Bool) (d : Nat), keyA P n t k = true → VRel ρ k v → n ≤ d → (Instr.checkKey e d t v).run P w = .ok () w
  | 0, _, _, _, _, _, h, _, _ => by simp [keyA] at h
  | n + 1, t, k, v, e, 0, h, hk, hd => by omega
  | n + 1, t, k, v, e, d + 1, h, hk, hd => by
    unfold keyA at h
    split at h
    · simp at h
    · simp at h
    · rename_i fields hu
      split at h
      · rename_i cs
        rw [vrel_agg] at hk
        obtain ⟨ws, rfl, hw⟩ := hk
        simp only [Bool.and_eq_true] at h
        obtain ⟨hnb, hall⟩ := h
        simp only [Instr.checkKey, Sem.run_bind, run_underlying hu, Result.andThen_ok]
        rw [← Array.forIn_toList]
        have hne := noBlank_ne hnb
        have hall' := List.all_eq_true.1 hall
        generalize fields.toList = fs at hne hall'
        clear hall hnb hu
        induction fs with
        | nil => simp
        | cons f fs ih =>
          have h1 := hall' f (by simp)
          split at h1
          · rename_i x hx
            obtain ⟨u, hu, hr⟩ := part_run hx hw w
            have h2 := keyA_run n f.type x u e d h1 hr (by omega)
            have h3 := ih (fun g hg => hne g (by simp [hg])) (fun g hg => hall' g (by simp [hg]))
            simp only [List.forIn_cons, Sem.run_bind, Sem.run_ite]
            rw [if_pos (hne f (by simp))]
            simp only [hu, Result.andThen_ok, h2, Sem.run_pure]
            exact h3
          · simp at h1
      · simp at h
    · rename_i q hu
      split at h
      · simp only [vrel_int] at hk; subst hk; simp [Instr.checkKey, run_underlying hu]
      · simp at h
    · rename_i hu
      split at h
      · simp only [vrel_bool] at hk; subst hk; simp [Instr.checkKey, run_underlying hu]
      · simp at h
    · rename_i hu
      split at h
      · simp only [vrel_str] at hk; subst hk; simp [Instr.checkKey, run_underlying hu]
      · simp at h
    · simp at h

/-- What findA finds, findAsking finds. -/
theorem findAsking_run (R : Rel P B ρ s w) {t : TypeId} {k : AV} {vk : Value} (hk : VRel ρ k vk) : ∀ (es : List (AV × AV)) (l : List MapEntry) (i : Nat) (r : Option (Nat × AV × AV)),
    findA P s t k es i = some r → ERel ρ es l →
    (Instr.findAsking t vk l i).run P w = .ok (r.bind fun x => (l[x.1 - i]?).map fun e => (x.1, e.val)) w ∧ ∀ x, r = some x → i ≤ x.1 ∧ es[x.1 - i]? = some x.2
  | [], l, i, r, h, he => by
    simp only [findA, Option.some.injEq] at h
    simp only [ERel] at he
    subst h he
    simp [Instr.findAsking]
  | (a, b) :: es, l, i, r, h, he => by
    obtain ⟨e, l', rfl, h1, h2, h3⟩ := he
    simp only [findA] at h
    split at h
    · rename_i hq
      simp only [Option.some.injEq] at h
      subst h
      have := eqA_run R 8 t k a true vk e.key hq hk h1 Op.maxDepth (by simp [Op.maxDepth])
      simp [Instr.findAsking, Op.equal, this]
    · rename_i hq
      have := eqA_run R 8 t k a false vk e.key hq hk h1 Op.maxDepth (by simp [Op.maxDepth])
      obtain ⟨h4, h5⟩ := findAsking_run R hk es l' (i + 1) r h h3
      refine ⟨?_, ?_⟩
      · simp only [Instr.findAsking, Sem.run_bind, Op.equal, this, Result.andThen_ok, Bool.false_eq_true, if_false]
        rw [h4]
        cases r with
        | none => rfl
        | some x =>
          have := (h5 x rfl).1
          simp only [Option.bind_some]
          rw [show x.1 - i = x.1 - (i + 1) + 1 from by omega]
          simp
      · intro x hx
        have := h5 x hx
        refine ⟨by omega, ?_⟩
        rw [show x.1 - i = x.1 - (i + 1) + 1 from by omega]
        simpa using this.2
    · simp at h

theorem findNow_run {t : TypeId} {kind : TypeDesc} (hu : P.underlying t = some kind) {vk : Value} : ∀ (l : List MapEntry) (i : Nat) (r : Option (Nat × Value)),
    Instr.findNow kind vk l i = some r → (Instr.findAsking t vk l i).run P w = .ok r w
  | [], i, r, h => by
    simp only [Instr.findNow, Option.some.injEq] at h
    subst h
    simp [Instr.findAsking]
  | e :: l, i, r, h => by
    have key : ∀ b, Instr.sameNow kind vk e.key = some b → (Op.equal t vk e.key).run P w = .ok b w := by
      intro b hb
      generalize e.key = ek at hb ⊢
      have hb1 : ∀ x y : Bool, kind = .bool → (Op.equalIn (9999 + 1) t (.bool x) (.bool y)).run P w = .ok (x == y) w := fun x y hk =>
        run_equalIn_bool w 9999 t x y (hk ▸ hu)
      have hs1 : ∀ x y : ByteArray, kind = .string → (Op.equalIn (9999 + 1) t (.string x) (.string y)).run P w = .ok (x == y) w := fun x y hk => by
        rw [run_equalIn_string w 9999 t x y (hk ▸ hu), beq_toListBytes]
      unfold Instr.sameNow at hb
      split at hb
      · split at hb
        · rename_i hk
          simp only [Option.some.injEq] at hb
          subst hb hk
          exact run_equalIn_int w 9999 t _ _ _ _ hu
        · simp at hb
      · simp only [Option.some.injEq] at hb
        subst hb
        exact hs1 _ _ rfl
      · simp only [Option.some.injEq] at hb
        subst hb
        exact hb1 _ _ rfl
      · simp at hb
    simp only [Instr.findNow] at h
    split at h
    · rename_i hb
      simp only [Option.some.injEq] at h
      subst h
      simp [Instr.findAsking, key _ hb]
    · rename_i hb
      have ih := findNow_run hu l (i + 1) r h
      simp only [Instr.findAsking, Sem.run_bind, key _ hb, Result.andThen_ok, Bool.false_eq_true, if_false]
      exact ih
    · simp at h

theorem findKey_run (R : Rel P B ρ s w) {t : TypeId} {d : TypeDesc} (hu : P.underlying t = some d) {k : AV} {vk : Value} (hk : VRel ρ k vk) {es : List (AV × AV)} {l : List MapEntry} {r : Option (Nat × AV × AV)}
    (h : findA P s t k es 0 = some r) (he : ERel ρ es l) :
    (Instr.findKey t vk l).run P w = .ok (r.bind fun x => (l[x.1]?).map fun e => (x.1, e.val)) w ∧ ∀ x, r = some x → es[x.1]? = some x.2 := by
  obtain ⟨h1, h2⟩ := findAsking_run R hk es l 0 r h he
  simp only [Nat.sub_zero] at h1 h2
  refine ⟨?_, fun x hx => (h2 x hx).2⟩
  rw [← h1]
  simp only [Instr.findKey, Sem.run_bind, run_underlying hu, Result.andThen_ok]
  split
  · rename_i q hq
    rw [findNow_run hu l 0 q hq]
    rfl
  · rfl

theorem keyA_under {n : Nat} {t : TypeId} {k : AV} (h : keyA P n t k = true) : ∃ d, P.underlying t = some d := by
  cases n with
  | zero => simp [keyA] at h
  | succ n =>
    unfold keyA at h
    cases hu : P.underlying t with
    | none => simp [hu] at h
    | some d => exact ⟨d, rfl⟩

theorem lookup_run (R : Rel P B ρ s w) {t : TypeId} {m k r : AV} {ok : Bool} {vm vk : Value} (h : lookupA P s t m k ok = some r) (hm : VRel ρ m vm) (hk : VRel ρ k vk) :
    ∃ v, (Instr.lookup t vm vk ok).run P w = .ok v w ∧ VRel ρ r v := by
  have two : ∀ {x : AV} {u : Value} (b : Bool), VRel ρ x u → VRel ρ (if ok then .tuple [x, .bool b] else x) (if ok then .tuple #[u, .bool b] else u) := by
    intro x u b hx
    split
    · rw [vrel_tuple]; exact .inr ⟨[u, .bool b], rfl, by simp [hx]⟩
    · exact hx
  unfold lookupA at h
  split at h
  · rename_i kt et hu
    split at h
    · rename_i hkey
      obtain ⟨d, hd⟩ := keyA_under hkey
      have hck : ∀ e, (Instr.checkKey e 10000 kt vk).run P w = .ok () w := fun e => keyA_run 4 kt k vk e 10000 hkey hk (by omega)
      split at h
      · simp only [vrel_nilMap] at hm
        subst hm
        split at h
        · rename_i z hz
          obtain ⟨zv, _, hzr, hzv⟩ := zeroA_run hz
          simp only [Option.some.injEq] at h
          subst h
          refine ⟨_, ?_, two false (hzv ρ)⟩
          have hf : (Instr.findKey kt vk []).run P w = .ok none w := by
            simp [Instr.findKey, run_underlying hd, Instr.findNow]
          simp [Instr.lookup, run_underlying hu, hck, hf, hzr]
        · simp at h
      · rename_i b
        rw [vrel_map] at hm
        obtain ⟨L, hL, rfl⟩ := hm
        split at h
        · rename_i es hes
          obtain ⟨ents, clk, hheap, herel⟩ := mapOf_run R hes hL
          have hobj := getObj_run (P := P) hheap (by simp)
          split at h
          · rename_i i old v hfa
            simp only [Option.some.injEq] at h
            subst h
            obtain ⟨hf, hg⟩ := findKey_run R hd hk hfa herel
            obtain ⟨e, he1, he2, he3⟩ := herel.get (hg _ rfl)
            refine ⟨_, ?_, two true he3⟩
            simp only [Option.bind_some, he1, Option.map_some] at hf
            simp only [Instr.lookup, Sem.run_bind, run_underlying hu, Result.andThen_ok, hobj, Sem.run_pure, hck, hf]
          · rename_i hfa
            obtain ⟨hf, hg⟩ := findKey_run R hd hk hfa herel
            simp only [Option.bind_none] at hf
            split at h
            · rename_i z hz
              obtain ⟨zv, _, hzr, hzv⟩ := zeroA_run hz
              simp only [Option.some.injEq] at h
              subst h
              refine ⟨_, ?_, two false (hzv ρ)⟩
              simp only [Instr.lookup, Sem.run_bind, run_underlying hu, Result.andThen_ok, hobj, Sem.run_pure, hck, hf, hzr]
            · simp at h
          · simp at h
        · simp at h
      · simp at h
    · simp at h
  · simp at h

/-! ### len, cap, max, min -/
theorem len_run (R : Rel P B ρ s w) {t ty : TypeId} {x r : AV} {vx : Value} {tys : List TypeId} (h : lenA P s t x = some r) (hx : VRel ρ x vx) :
    ∃ v, (Builtin.len_ (t :: tys).toArray ty #[vx]).run P w = .ok v w ∧ VRel ρ r v := by
  unfold lenA at h
  split at h
  · rename_i b hu
    simp only [vrel_str] at hx
    simp only [Option.some.injEq] at h
    subst hx h
    exact ⟨.int .i64 b.size, by simp [Builtin.len_, run_underlying hu, goInt], by simp⟩
  · rename_i n e hu
    simp only [Option.some.injEq] at h
    subst h
    exact ⟨.int .i64 n, by simp [Builtin.len_, run_underlying hu, goInt], by simp⟩
  · rename_i arr hu
    split at h
    · rename_i n e hu2
      simp only [Option.some.injEq] at h
      subst h
      exact ⟨.int .i64 n, by simp [Builtin.len_, run_underlying hu, run_underlying hu2, goInt], by simp⟩
    · simp at h
  · rename_i e hu
    simp only [vrel_nilSlice] at hx
    simp only [Option.some.injEq] at h
    subst hx h
    exact ⟨.int .i64 0, by simp [Builtin.len_, run_underlying hu, goInt], by simp⟩
  · rename_i e b o n c hu
    rw [vrel_slice] at hx
    obtain ⟨y, rfl, _⟩ := hx
    simp only [Option.some.injEq] at h
    subst h
    exact ⟨.int .i64 n, by simp [Builtin.len_, run_underlying hu, goInt], by simp⟩
  · rename_i e b o n c hu
    rw [vrel_osl] at hx
    obtain ⟨L, y, k, _, rfl, _⟩ := hx
    simp only [Option.some.injEq] at h
    subst h
    exact ⟨.int .i64 n, by simp [Builtin.len_, run_underlying hu, goInt], by simp⟩
  · rename_i k e hu
    simp only [vrel_nilMap] at hx
    simp only [Option.some.injEq] at h
    subst hx h
    exact ⟨.int .i64 0, by simp [Builtin.len_, run_underlying hu, goInt], by simp⟩
  · rename_i k e b hu
    rw [vrel_map] at hx
    obtain ⟨L, hL, rfl⟩ := hx
    split at h
    · rename_i es hes
      obtain ⟨ents, clk, hheap, herel⟩ := mapOf_run R hes hL
      have hobj := getObj_run (P := P) hheap (by simp)
      have hlen := herel.length
      simp only [Option.some.injEq] at h
      subst h
      refine ⟨.int .i64 es.length, ?_, by simp⟩
      simp only [Array.length_toList] at hlen
      simp [Builtin.len_, run_underlying hu, hobj, goInt, hlen]
    · simp at h
  · simp at h

theorem cap_run {t ty : TypeId} {x r : AV} {vx : Value} {tys : List TypeId} (h : capA P t x = some r) (hx : VRel ρ x vx) :
    ∃ v, (Builtin.cap_ (t :: tys).toArray ty #[vx]).run P w = .ok v w ∧ VRel ρ r v := by
  unfold capA at h
  split at h
  · rename_i n e hu
    simp only [Option.some.injEq] at h
    subst h
    exact ⟨.int .i64 n, by simp [Builtin.cap_, run_underlying hu, goInt], by simp⟩
  · rename_i e hu
    simp only [vrel_nilSlice] at hx
    simp only [Option.some.injEq] at h
    subst hx h
    exact ⟨.int .i64 0, by simp [Builtin.cap_, run_underlying hu, goInt], by simp⟩
  · rename_i e b o n c hu
    rw [vrel_slice] at hx
    obtain ⟨y, rfl, _⟩ := hx
    simp only [Option.some.injEq] at h
    subst h
    exact ⟨.int .i64 c, by simp [Builtin.cap_, run_underlying hu, goInt], by simp⟩
  · simp at h

theorem maxFrom_run {k : IntKind} : ∀ (l : List AV) (vs : List Value) (x : Int) (r : AV), maxFrom k x l = some r → VRels ρ l vs →
    ∃ v, (vs.foldlM Builtin.max2 (.int k x) : Sem Value).run P w = .ok v w ∧ VRel ρ r v
  | [], vs, x, r, h, hv => by
    simp only [maxFrom, Option.some.injEq] at h
    simp only [vrels_nil] at hv
    subst h hv
    exact ⟨.int k x, by simp, by simp⟩
  | a :: l, vs, x, r, h, hv => by
    rw [vrels_cons] at hv
    obtain ⟨v, ws, rfl, ha, hl⟩ := hv
    simp only [maxFrom] at h
    split at h
    · rename_i k' y
      split at h
      · simp only [vrel_int] at ha
        subst ha
        obtain ⟨u, hu, hr⟩ := maxFrom_run l ws _ r h hl
        exact ⟨u, by simp [Builtin.max2]; exact hu, hr⟩
      · simp at h
    · simp at h
theorem minFrom_run {k : IntKind} : ∀ (l : List AV) (vs : List Value) (x : Int) (r : AV), minFrom k x l = some r → VRels ρ l vs →
    ∃ v, (vs.foldlM Builtin.min2 (.int k x) : Sem Value).run P w = .ok v w ∧ VRel ρ r v
  | [], vs, x, r, h, hv => by
    simp only [minFrom, Option.some.injEq] at h
    simp only [vrels_nil] at hv
    subst h hv
    exact ⟨.int k x, by simp, by simp⟩
  | a :: l, vs, x, r, h, hv => by
    rw [vrels_cons] at hv
    obtain ⟨v, ws, rfl, ha, hl⟩ := hv
    simp only [minFrom] at h
    split at h
    · rename_i k' y
      split at h
      · simp only [vrel_int] at ha
        subst ha
        obtain ⟨u, hu, hr⟩ := minFrom_run l ws _ r h hl
        exact ⟨u, by simp [Builtin.min2]; exact hu, hr⟩
      · simp at h
    · simp at h
end
end Go.Mini

namespace Go.Mini
open Go Go.RowKit
section
variable {P : Program} {B : Base} {ρ : Ren} {s : AS} {w : World} {ts : List AV} {a : Act}

theorem optA_rel (hg : GR P ρ) (ht : TR ρ ts a) {x : Option Operand} {r : Option AV} (h : optA P ts x = some r) : BRel ρ r (x.map a.eval) := by
  unfold optA at h
  split at h
  · simp only [Option.some.injEq] at h; subst h; simp [BRel]
  · split at h
    · rename_i v hv
      simp only [Option.some.injEq] at h
      subst h
      exact ⟨_, rfl, evA_rel hg ht hv⟩
    · simp at h

theorem prels_eq {parts : Array (Nat × Operand)} : (parts.map fun (x : Nat × Operand) => (x.1, a.eval x.2)) = (parts.toList.map fun p => (p.1, a.eval p.2)).toArray := by
  apply Array.ext'
  simp

theorem val_binOp (R : Rel P B ρ s w) (ht : TR ρ ts a) {o : Oper} {op : BinOp} {t ty : TypeId} {x y : Operand} {v : AV} (ho : o.op = .binOp op t x y ty)
    (h : valA P ts s (.binOp op t x y ty) = some v) : ∃ u, (execOp a.eval o).run P w = .ok (.value u) w ∧ VRel ρ v u := by
  have hex : execOp a.eval o = (do pure (.value (← (do eqGuard op t x y (a.eval x) (a.eval y); binOp op t (a.eval x) (a.eval y))))) := by simp only [execOp, ho]
  rw [hex]
  simp only [valA] at h
  split at h
  · rename_i p q hp hq
    have hx := evA_rel R.glob ht hp
    have hy := evA_rel R.glob ht hq
    split at h
    · split at h
      · simp only [vrel_int] at hx hy
        rw [hx, hy]
        split at h
        · rename_i hk
          simp only [Option.some.injEq] at h
          subst h hk
          exact ⟨.bool _, by simp [binOp_eql]; rfl, by simp⟩
        · simp at h
      · simp only [vrel_str] at hx hy
        simp only [Option.some.injEq] at h
        subst h
        rw [hx, hy]
        exact ⟨.bool _, by simp [binOp, Op.stringOp, ← beq_toListBytes]; rfl, by simp⟩
      · rename_i h1 h2
        split at h
        · rename_i r hr
          simp only [Option.some.injEq] at h
          subst h
          have hi : ∀ k n, p ≠ .int k n := by
            intro k n e
            subst e
            unfold eqlO at hr
            split at hr
            · rename_i hc
              simp [nilBoth] at hc
            unfold eqlA at hr
            split at hr
            · unfold eqA at hr
              have : ∀ k' m, q ≠ .int k' m := fun k' m e => h1 _ _ _ _ rfl e
              split at hr <;> simp_all [eqBool, eqInt, eqStr, eqPtr, eqIfc, eqSli, eqMap, eqFun, aggOf]
            · simp at hr
          have hs : ∀ b, p ≠ .str b := by
            intro b e
            subst e
            unfold eqlO at hr
            split at hr
            · rename_i hc
              simp [nilBoth] at hc
            unfold eqlA at hr
            split at hr
            · unfold eqA at hr
              have : ∀ m, q ≠ .str m := fun m e => h2 _ _ rfl e
              split at hr <;> simp_all [eqBool, eqInt, eqStr, eqPtr, eqIfc, eqSli, eqMap, eqFun, aggOf]
            · simp at hr
          have := (eqlO_run R hr hx hy hi hs).1
          refine ⟨.bool r, ?_, by simp⟩
          rw [Sem.run_bind, this]
          rfl
        · simp at h
    · split at h
      · simp only [vrel_int] at hx hy
        rw [hx, hy]
        split at h
        · rename_i hk
          simp only [Option.some.injEq] at h
          subst h hk
          exact ⟨.bool _, by simp [binOp_neq]; rfl, by simp⟩
        · simp at h
      · simp only [vrel_str] at hx hy
        simp only [Option.some.injEq] at h
        subst h
        rw [hx, hy]
        exact ⟨.bool _, by simp only [eqGuard_at_string, binOp, Op.stringOp, ← beq_toListBytes, Sem.run_bind, Sem.run_pure, Result.andThen_ok]; rfl, by simp [bne]⟩
      · rename_i h1 h2
        split at h
        · rename_i r hr
          simp only [Option.some.injEq] at h
          subst h
          have hi : ∀ k n, p ≠ .int k n := by
            intro k n e
            subst e
            unfold eqlO at hr
            split at hr
            · rename_i hc
              simp [nilBoth] at hc
            unfold eqlA at hr
            split at hr
            · unfold eqA at hr
              have : ∀ k' m, q ≠ .int k' m := fun k' m e => h1 _ _ _ _ rfl e
              split at hr <;> simp_all [eqBool, eqInt, eqStr, eqPtr, eqIfc, eqSli, eqMap, eqFun, aggOf]
            · simp at hr
          have hs : ∀ b, p ≠ .str b := by
            intro b e
            subst e
            unfold eqlO at hr
            split at hr
            · rename_i hc
              simp [nilBoth] at hc
            unfold eqlA at hr
            split at hr
            · unfold eqA at hr
              have : ∀ m, q ≠ .str m := fun m e => h2 _ _ rfl e
              split at hr <;> simp_all [eqBool, eqInt, eqStr, eqPtr, eqIfc, eqSli, eqMap, eqFun, aggOf]
            · simp at hr
          have := (eqlO_run R hr hx hy hi hs).2
          refine ⟨.bool (!r), ?_, by simp⟩
          rw [Sem.run_bind, this]
          rfl
        · simp at h
    · rename_i h1 h2
      obtain ⟨u, hu, hr⟩ := arith_run (P := P) (w := w) t h hx hy
      refine ⟨u, ?_, hr⟩
      rw [eqGuard_pass (fun e => h1 e) (fun e => h2 e)]
      simp [hu]
  · simp at h

theorem args_eq {args : Array Operand} : (args.map a.eval) = (args.toList.map a.eval).toArray := by
  apply Array.ext'
  simp

/-- What an operation that turns nothing is worth here, it is worth there; the world stays. -/
theorem val_run (R : Rel P B ρ s w) (ht : TR ρ ts a) (o : Oper) {v : AV} (h : valA P ts s o.op = some v) : ∃ u, (execOp a.eval o).run P w = .ok (.value u) w ∧ VRel ρ v u := by
  have fin : ∀ {x : Sem Value} {u : Value}, execOp a.eval o = (do pure (.value (← x))) → x.run P w = .ok u w → VRel ρ v u → ∃ u, (execOp a.eval o).run P w = .ok (.value u) w ∧ VRel ρ v u := by
    intro x u h1 h2 h3
    exact ⟨u, by rw [h1]; simp [h2], h3⟩
  cases hop : o.op with
  | move x => rw [hop] at h; simp only [valA] at h; exact ⟨_, by simp [execOp, hop], evA_rel R.glob ht h⟩
  | assign x => rw [hop] at h; simp only [valA] at h; exact ⟨_, by simp [execOp, hop], evA_rel R.glob ht h⟩
  | pick c x y =>
    rw [hop] at h
    simp only [valA] at h
    split at h
    · rename_i hc
      have hcc := evA_rel R.glob ht hc
      simp only [vrel_bool] at hcc
      exact ⟨_, by simp [execOp, hop, asBool, hcc], evA_rel R.glob ht h⟩
    · rename_i hc
      have hcc := evA_rel R.glob ht hc
      simp only [vrel_bool] at hcc
      exact ⟨_, by simp [execOp, hop, asBool, hcc], evA_rel R.glob ht h⟩
    · simp at h
  | build t parts =>
    rw [hop] at h
    simp only [valA] at h
    split at h
    · rename_i l hl
      obtain ⟨u, hu, hr⟩ := build_run (P := P) h (evParts_rel R.glob ht hl) w
      exact fin (by simp only [execOp, hop]; rfl) (by rw [prels_eq]; exact hu) hr
    · simp at h
  | nilCheck x =>
    rw [hop] at h
    simp only [valA] at h
    split at h <;> simp only [Option.some.injEq, reduceCtorEq] at h
    all_goals
      rename_i hx
      have hxx := evA_rel R.glob ht hx
      refine ⟨a.eval x, ?_, h ▸ hxx⟩
      first
        | (rw [vrel_ptr] at hxx; obtain ⟨_, _, e⟩ := hxx; simp [execOp, hop, e]; done)
        | (rw [vrel_func] at hxx; obtain ⟨_, _, e, _⟩ := hxx; simp [execOp, hop, e]; done)
        | (rw [vrel_slice] at hxx; obtain ⟨_, e, _⟩ := hxx; simp [execOp, hop, e]; done)
        | (rw [vrel_osl] at hxx; obtain ⟨_, _, _, _, e, _⟩ := hxx; simp [execOp, hop, e]; done)
        | (rw [vrel_iface] at hxx; obtain ⟨_, e, _⟩ := hxx; simp [execOp, hop, e]; done)
        | (rw [vrel_map] at hxx; obtain ⟨_, _, e⟩ := hxx; simp [execOp, hop, e]; done)
  | binOp op t x y ty => rw [hop] at h; exact val_binOp R ht hop h
  | unOp op t x =>
    rw [hop] at h
    simp only [valA] at h
    split at h
    · rename_i p hp
      obtain ⟨u, hu, hr⟩ := unary_run (P := P) (w := w) h (evA_rel R.glob ht hp)
      exact fin (by simp only [execOp, hop]) hu hr
    · simp at h
  | convert src dst x =>
    rw [hop] at h
    simp only [valA] at h
    split at h
    · rename_i p hp
      obtain ⟨u, hu, hr⟩ := convert_run (P := P) (w := w) h (evA_rel R.glob ht hp)
      exact fin (by simp only [execOp, hop]) hu hr
    · simp at h
  | makeInterface t x =>
    rw [hop] at h
    simp only [valA] at h
    split at h
    · simp at h
    · rename_i p d hne hp hu
      simp only [Option.some.injEq] at h
      have hxx := evA_rel R.glob ht hp
      refine fin (u := .iface t (a.eval x)) (by simp only [execOp, hop]; rfl) ?_ (by rw [← h, vrel_iface]; exact ⟨_, rfl, hxx⟩)
      simp only [Instr.makeInterface, Sem.run_bind, run_underlying hu, Result.andThen_ok]
      cases d <;> first | rfl | exact absurd rfl (fun e => hne _ _ rfl e)
    · simp at h
  | makeFunc fn first captured =>
    rw [hop] at h
    simp only [valA] at h
    split at h
    · rename_i p q hp hq
      simp only [Option.some.injEq] at h
      refine fin (u := .func fn (first.map a.eval) (captured.map a.eval)) (by simp only [execOp, hop]; rfl) (by simp [Instr.makeFunc]) ?_
      rw [← h, vrel_func]
      exact ⟨_, _, by rw [args_eq, args_eq], evL_rel R.glob ht hp, evL_rel R.glob ht hq⟩
    · simp at h
  | slice t x lo hi mx =>
    rw [hop] at h
    simp only [valA] at h
    split at h
    · rename_i p l hh m hp hl hhh hm
      obtain ⟨u, hu, hr⟩ := slice_run (P := P) (w := w) h (evA_rel R.glob ht hp) (optA_rel R.glob ht hl) (optA_rel R.glob ht hhh) (optA_rel R.glob ht hm)
      exact fin (by simp only [execOp, hop]) hu hr
    · simp at h
  | fieldAddr t x f =>
    rw [hop] at h
    simp only [valA] at h
    split at h
    · rename_i p hp
      obtain ⟨u, hu, hr⟩ := fieldAddr_run (P := P) (w := w) h (evA_rel R.glob ht hp)
      exact fin (by simp only [execOp, hop]) hu hr
    · simp at h
  | field t x f =>
    rw [hop] at h
    simp only [valA] at h
    split at h
    · rename_i p hp
      obtain ⟨u, hu, hr⟩ := field_run (P := P) (w := w) h (evA_rel R.glob ht hp)
      exact fin (by simp only [execOp, hop]) hu hr
    · simp at h
  | indexAddr t x i =>
    rw [hop] at h
    simp only [valA] at h
    split at h
    · rename_i p q hp hq
      obtain ⟨u, hu, hr⟩ := indexAddr_run (P := P) (w := w) h (evA_rel R.glob ht hp) (evA_rel R.glob ht hq)
      exact fin (by simp only [execOp, hop]) hu hr
    · simp at h
  | index t x i =>
    rw [hop] at h
    simp only [valA] at h
    split at h
    · rename_i p q hp hq
      obtain ⟨u, hu, hr⟩ := index_run (P := P) (w := w) h (evA_rel R.glob ht hp) (evA_rel R.glob ht hq)
      exact fin (by simp only [execOp, hop]) hu hr
    · simp at h
  | typeAssert x xt at_ ok =>
    rw [hop] at h
    simp only [valA] at h
    split at h
    · rename_i p hp
      obtain ⟨u, hu, hr⟩ := typeAssert_run (P := P) (w := w) (xt := xt) h (evA_rel R.glob ht hp)
      exact fin (by simp only [execOp, hop]) hu hr
    · simp at h
  | extract x i =>
    rw [hop] at h
    simp only [valA] at h
    split at h
    · rename_i vs hp
      have hxx := evA_rel R.glob ht hp
      rw [vrel_tuple] at hxx
      rcases hxx with ⟨hl, _⟩ | hxx
      · rw [if_pos (by simp [hl])] at h
        cases h
      split at h
      · cases h
      obtain ⟨ws, e, hw⟩ := hxx
      obtain ⟨u, hu, hr⟩ := hw.get h
      exact fin (u := u) (by simp only [execOp, hop]; rfl) (by simp [Instr.extract, e, hu]) hr
    · simp at h
  | load t x =>
    rw [hop] at h
    simp only [valA] at h
    split at h
    · rename_i p hp
      obtain ⟨u, hu, hr⟩ := load_run R h (evA_rel R.glob ht hp)
      exact fin (by simp only [execOp, hop]) hu hr
    · simp at h
  | lookup t m k ok =>
    rw [hop] at h
    simp only [valA] at h
    split at h
    · rename_i p q hp hq
      obtain ⟨u, hu, hr⟩ := lookup_run R h (evA_rel R.glob ht hp) (evA_rel R.glob ht hq)
      exact fin (by simp only [execOp, hop]) hu hr
    · simp at h
  | call c =>
    obtain ⟨callee, args, argTypes⟩ := c
    rw [hop] at h
    simp only [valA] at h
    split at h
    · split at h
      · rename_i x t tys hargs htys
        split at h
        · rename_i p hp
          obtain ⟨u, hu, hr⟩ := len_run (P := P) (B := B) (ty := o.type) (tys := tys) R h (evA_rel R.glob ht hp)
          have ha : args = #[x] := by apply Array.ext'; simpa using hargs
          have hty : argTypes = (t :: tys).toArray := by apply Array.ext'; simpa using htys
          refine fin (x := Builtin.len_ argTypes o.type (args.map a.eval)) (u := u) ?_ ?_ hr
          · simp [execOp, hop, resolve, invoke, builtin]
          · rw [ha, hty]; simpa using hu
        · simp at h
      · simp at h
    · split at h
      · rename_i x t tys hargs htys
        split at h
        · rename_i p hp
          obtain ⟨u, hu, hr⟩ := cap_run (P := P) (w := w) (ty := o.type) (tys := tys) h (evA_rel R.glob ht hp)
          have ha : args = #[x] := by apply Array.ext'; simpa using hargs
          have hty : argTypes = (t :: tys).toArray := by apply Array.ext'; simpa using htys
          refine fin (x := Builtin.cap_ argTypes o.type (args.map a.eval)) (u := u) ?_ ?_ hr
          · simp [execOp, hop, resolve, invoke, builtin]
          · rw [ha, hty]; simpa using hu
        · simp at h
      · simp at h
    · split at h
      · rename_i l hl
        have hr := evL_rel R.glob ht hl
        unfold maxs at h
        split at h
        · rename_i k x t
          rw [vrels_cons] at hr
          obtain ⟨u, ws, e, h1, h2⟩ := hr
          simp only [vrel_int] at h1
          obtain ⟨q, hq, hqr⟩ := maxFrom_run (P := P) (w := w) t ws x v h h2
          refine fin (x := Builtin.max_ argTypes o.type (args.map a.eval)) (u := q) ?_ ?_ hqr
          · simp [execOp, hop, resolve, invoke, builtin]
          · simp [Builtin.max_, e, h1]; exact hq
        · simp at h
      · simp at h
    · split at h
      · rename_i l hl
        have hr := evL_rel R.glob ht hl
        unfold mins at h
        split at h
        · rename_i k x t
          rw [vrels_cons] at hr
          obtain ⟨u, ws, e, h1, h2⟩ := hr
          simp only [vrel_int] at h1
          obtain ⟨q, hq, hqr⟩ := minFrom_run (P := P) (w := w) t ws x v h h2
          refine fin (x := Builtin.min_ argTypes o.type (args.map a.eval)) (u := q) ?_ ?_ hqr
          · simp [execOp, hop, resolve, invoke, builtin]
          · simp [Builtin.min_, e, h1]; exact hq
        · simp at h
      · simp at h
    · simp at h
  | _ => rw [hop] at h; simp [valA] at h
end
end Go.Mini

namespace Go.Mini
open Go Go.RowKit

/-! ### the abstract heap -/
theorem getB_set (l : List (Nat × AObj)) (b : Nat) (o : AObj) (b' : Nat) : getB (setB l b o) b' = if b' = b then (getB l b).map (fun _ => o) else getB l b' := by
  induction l with
  | nil => simp [getB, setB]
  | cons x t ih =>
    obtain ⟨k, v⟩ := x
    simp only [setB]
    by_cases hk : k = b
    · subst hk
      simp only [Nat.beq_refl, if_true, getB]
      by_cases hb : b' = k
      · subst hb; simp
      · have : Nat.beq k b' = false := by
          cases h : Nat.beq k b'
          · rfl
          · exact absurd (Nat.eq_of_beq_eq_true h).symm hb
        simp [hb, this]
    · have h1 : Nat.beq k b = false := by
        cases h : Nat.beq k b
        · rfl
        · exact absurd (Nat.eq_of_beq_eq_true h) hk
      simp only [h1, Bool.false_eq_true, if_false, getB, ih]
      by_cases hb : b' = b
      · subst hb; simp [h1]
      · simp [hb]
theorem keys_set (l : List (Nat × AObj)) (b : Nat) (o : AObj) : (setB l b o).map (·.1) = l.map (·.1) := by
  induction l with
  | nil => rfl
  | cons x t ih => simp only [setB]; split <;> simp [ih]
theorem getB_mem {l : List (Nat × AObj)} {b : Nat} {o : AObj} (h : getB l b = some o) : b ∈ l.map (·.1) := by
  induction l with
  | nil => simp [getB] at h
  | cons x t ih =>
    simp only [getB] at h
    split at h
    · rename_i hb
      have := Nat.eq_of_beq_eq_true hb
      simp [this]
    · simp [ih h]
theorem getB_append {l m : List (Nat × AObj)} {b : Nat} (h : b ∉ l.map (·.1)) : getB (l ++ m) b = getB m b := by
  induction l with
  | nil => rfl
  | cons x t ih =>
    simp only [List.map_cons, List.mem_cons, not_or] at h
    simp only [List.cons_append, getB]
    have : Nat.beq x.1 b = false := by
      cases hh : Nat.beq x.1 b
      · rfl
      · exact absurd (Nat.eq_of_beq_eq_true hh).symm h.1
    simp [this, ih h.2]

def keysOf (s : AS) : List Nat := s.h.bs.map (·.1)

section
variable {s s' s'' : AS} {b b' : Nat} {o : AObj}
theorem AS.get_set (s : AS) (b : Nat) (o : AObj) (b' : Nat) : (s.set b o).get b' = if b' = b then (s.get b).map (fun _ => o) else s.get b' := getB_set _ _ _ _
theorem AS.get_push (s : AS) (o : AObj) (b : Nat) : (s.push o).get b = if s.nx = b then some o else s.get b := by
  simp only [AS.push, AS.get, getB]
  by_cases h : s.nx = b
  · subst h; simp
  · have : Nat.beq s.nx b = false := by
      cases hh : Nat.beq s.nx b
      · rfl
      · exact absurd (Nat.eq_of_beq_eq_true hh) h
    simp [this, h]
@[simp] theorem AS.keys_set (s : AS) (b : Nat) (o : AObj) : keysOf (s.set b o) = keysOf s := Mini.keys_set _ _ _
@[simp] theorem AS.keys_push (s : AS) (o : AObj) : keysOf (s.push o) = s.nx :: keysOf s := rfl
@[simp] theorem AS.nx_set (s : AS) (b : Nat) (o : AObj) : (s.set b o).nx = s.nx := rfl
@[simp] theorem AS.nx_push (s : AS) (o : AObj) : (s.push o).nx = s.nx + 1 := rfl
@[simp] theorem noteEsc_get (s : AS) (b : Nat) (y : Bool) (c : Nat) : (noteEsc s b y).get c = s.get c := by unfold noteEsc; split <;> rfl
@[simp] theorem noteEsc_keys (s : AS) (b : Nat) (y : Bool) : keysOf (noteEsc s b y) = keysOf s := by unfold noteEsc; split <;> rfl
@[simp] theorem noteEsc_nx (s : AS) (b : Nat) (y : Bool) : (noteEsc s b y).nx = s.nx := by unfold noteEsc; split <;> rfl
@[simp] theorem noteEsc_len (s : AS) (b : Nat) (y : Bool) : (noteEsc s b y).h.len = s.h.len := by unfold noteEsc; split <;> rfl

/-- What a step does to the list of blocks: some come in front. -/
structure Shape (s s' : AS) : Prop where
  nx : s.nx ≤ s'.nx
  keys : ∃ ks, keysOf s' = ks ++ keysOf s ∧ s'.h.len = s.h.len + ks.length ∧ ∀ k ∈ ks, s.nx ≤ k ∧ k < s'.nx
  log : ∃ l, s'.h.wr = l ++ s.h.wr ∧ ∀ b, b < s.nx → b ∉ l → s'.get b = s.get b
theorem Shape.refl (s : AS) : Shape s s := ⟨Nat.le_refl _, ⟨[], by simp⟩, [], rfl, fun _ _ _ => rfl⟩
theorem Shape.trans (h : Shape s s') (k : Shape s' s'') : Shape s s'' := by
  obtain ⟨h1, ⟨ks, h2, h3, h4⟩, l, h5, h6⟩ := h
  obtain ⟨k1, ⟨js, k2, k3, k4⟩, m, k5, k6⟩ := k
  refine ⟨Nat.le_trans h1 k1, ⟨js ++ ks, by rw [k2, h2, List.append_assoc], by rw [k3, h3]; simp; omega, fun x hx => ?_⟩, m ++ l, by rw [k5, h5, List.append_assoc], fun b hb hn => ?_⟩
  · rcases List.mem_append.1 hx with hx | hx
    · have := k4 x hx; omega
    · have := h4 x hx; omega
  · rw [List.mem_append, not_or] at hn
    rw [k6 b (by omega) hn.1, h6 b hb hn.2]
theorem Shape.set (s : AS) (b : Nat) (o : AObj) : Shape s (s.set b o) :=
  ⟨Nat.le_refl _, ⟨[], by simp, rfl, by simp⟩, [b], rfl, fun c _ hc => by rw [AS.get_set, if_neg (by simpa using hc)]⟩
theorem Shape.push (s : AS) (o : AObj) : Shape s (s.push o) := ⟨Nat.le_succ _, ⟨[s.nx], by simp, rfl, by simp⟩, [], rfl, fun c hc _ => by rw [AS.get_push, if_neg (by omega)]⟩
theorem noteEsc_wr (s : AS) (b : Nat) (y : Bool) : (Mini.noteEsc s b y).h.wr = s.h.wr := by unfold Mini.noteEsc; split <;> rfl
theorem Shape.noteEsc (s : AS) (b : Nat) (y : Bool) : Shape s (noteEsc s b y) := ⟨by simp, ⟨[], by simp⟩, [], noteEsc_wr s b y, fun c _ _ => by simp⟩
end

/-! ### the relation, carried over steps -/
def upd (ρ : Ren) (b : Nat) (L : Loc) : Ren := fun x => if x = b then some L else ρ x
theorem upd_same (ρ : Ren) (b : Nat) (L : Loc) : upd ρ b L b = some L := by simp [upd]
theorem upd_other (ρ : Ren) (b : Nat) (L : Loc) {x : Nat} (h : x ≠ b) : upd ρ b L x = ρ x := by simp [upd, h]
theorem upd_mono {ρ : Ren} {b : Nat} {L : Loc} (h : ρ b = none) : ∀ x M, ρ x = some M → upd ρ b L x = some M := by
  intro x M hx
  have : x ≠ b := fun e => by subst e; rw [h] at hx; cases hx
  rw [upd_other _ _ _ this, hx]

theorem ERel.mono {ρ ρ' : Ren} (h : ∀ b L, ρ b = some L → ρ' b = some L) : ∀ {es : List (AV × AV)} {l : List MapEntry}, ERel ρ es l → ERel ρ' es l
  | [], _, he => he
  | (k, v) :: es, l, he => by
    obtain ⟨e, r, h1, h2, h3, h4⟩ := he
    exact ⟨e, r, h1, h2.mono h, h3.mono h, ERel.mono h h4⟩
theorem OO.mono {ρ ρ' : Ren} (h : ∀ b L, ρ b = some L → ρ' b = some L) {o : AObj} {L : Loc} {c : Obj} (ho : OO ρ o L c) : OO ρ' o L c := by
  cases o with
  | cells ro cs =>
    obtain ⟨arr, e, fz, h1, h2, h3, vs, h4, h5⟩ := ho
    exact ⟨arr, e, fz, h1, h2, h3, vs, h4.mono h, h5⟩
  | map es =>
    obtain ⟨ents, h1, h2, h3⟩ := ho
    exact ⟨ents, h1, h2.mono h, h3⟩
  | dead => trivial

/-- The same but for blocks' contents that are told. -/
structure SameBut (w w' : World) (c : Nat) : Prop where
  os : w'.os = w.os
  tape : w'.tape = w.tape
  output : w'.output = w.output
  size : w'.heap.size = w.heap.size
  block : ∀ k, k ≠ c → w'.heap[k]? = w.heap[k]?

section
variable {P : Program} {B : Base} {ρ : Ren} {s : AS} {w w' : World}

theorem Rel.congr {s' : AS} (R : Rel P B ρ s w) (h1 : ∀ b, s'.get b = s.get b) (h2 : keysOf s' = keysOf s) (h3 : s'.nx = s.nx) : Rel P B ρ s' w :=
  ⟨R.below, R.glob, by rw [h3]; exact R.fresh, by show ∀ k ∈ keysOf s', _; rw [h2, h3]; exact R.keys, R.lt, fun b o L h => R.obj b o L (h1 b ▸ h), fun b o L h => R.own b o L (h1 b ▸ h),
    fun b cs L h => R.ros b cs L (h1 b ▸ h), fun b b' o o' L L' h h' => R.inj b b' o o' L L' (h1 b ▸ h) (h1 b' ▸ h')⟩

theorem Rel.drew (R : Rel P B ρ s w) : Rel P B ρ s w.drew :=
  ⟨R.below.drew, R.glob, R.fresh, R.keys, R.lt, R.obj, R.own, R.ros, R.inj⟩

theorem Rel.key_lt (R : Rel P B ρ s w) {b : Nat} {o : AObj} (h : s.get b = some o) : b < s.nx := R.keys b (getB_mem h)

/-- A block of the call's own is turned. -/
theorem Rel.update (R : Rel P B ρ s w) {b : Nat} {o o' : AObj} {L : Loc} (hb : s.get b = some o) (ho : o.rw = true) (hL : ρ b = some L) (hw : SameBut w w' L.c)
    (ho' : o' = .dead ∨ o'.rw = true) (hm : OM ρ o' L w') : Rel P B ρ (s.set b o') w' := by
  have hown := R.own b o L hb ho hL
  refine ⟨?_, R.glob, R.fresh, by show ∀ k ∈ keysOf (s.set b o'), _; rw [AS.keys_set]; exact R.keys, fun b' L' h => by rw [hw.size]; exact R.lt b' L' h, ?_, ?_, ?_, ?_⟩
  · exact R.below.trans ⟨hw.os, hw.tape, hw.output, by rw [hw.size]; exact Nat.le_refl _, fun k hk => hw.block k (fun e => hown (e ▸ hk))⟩
  · intro b' o2 L' h hL'
    rw [AS.get_set] at h
    split at h
    · rename_i e
      subst e
      rw [hb] at h
      rw [hL] at hL'
      simp only [Option.map_some, Option.some.injEq] at h hL'
      subst h hL'
      exact hm
    · rename_i hne
      obtain ⟨c, hc, hoo⟩ := R.obj b' o2 L' h hL'
      by_cases hcc : L'.c = L.c
      · cases hrw : o2.rw with
        | true => exact absurd (R.inj b' b o2 o L' L h hb hrw ho hL' hL hcc) hne
        | false =>
          cases o2 with
          | cells ro cs =>
            have : ro = true := by simpa [AObj.rw] using hrw
            subst this
            have := R.ros b' cs L' h hL'
            exact absurd (hcc ▸ this) hown
          | map es => simp [AObj.rw] at hrw
          | dead =>
            have hlt := R.lt b' L' hL'
            rw [← hw.size] at hlt
            exact ⟨_, Array.getElem?_eq_getElem hlt, trivial⟩
      · exact ⟨c, by rw [hw.block _ hcc]; exact hc, hoo⟩
  · intro b' o2 L' h hr hL'
    rw [AS.get_set] at h
    split at h
    · rename_i e
      subst e
      rw [hL] at hL'
      simp only [Option.some.injEq] at hL'
      subst hL'
      exact hown
    · exact R.own b' o2 L' h hr hL'
  · intro b' cs L' h hL'
    rw [AS.get_set] at h
    split at h
    · rename_i e
      rw [hb] at h
      simp only [Option.map_some, Option.some.injEq] at h
      subst h
      rcases ho' with h' | h' <;> simp [AObj.rw] at h'
    · exact R.ros b' cs L' h hL'
  · have key : ∀ x q, (s.set b o').get x = some q → q.rw = true → ∃ q', s.get x = some q' ∧ q'.rw = true := by
      intro x q h hr
      rw [AS.get_set] at h
      split at h
      · rename_i e
        subst e
        exact ⟨o, hb, ho⟩
      · exact ⟨q, h, hr⟩
    intro x y q q' Lx Ly h1 h2 h3 h4 h5 h6 h7
    obtain ⟨p, hp, hp2⟩ := key x q h1 h3
    obtain ⟨p', hp', hp2'⟩ := key y q' h2 h4
    exact R.inj x y p p' Lx Ly hp hp' hp2 hp2' h5 h6 h7

/-- A new block stands for a block of the model that nothing of ours stands for. -/
theorem Rel.pushAt (R : Rel P B ρ s w) {o : AObj} {L : Loc} (ho : o.rw = true) (hB : ¬ B.K L.c) (hlt : L.c < w'.heap.size)
    (hfree : ∀ b o' L', s.get b = some o' → o'.rw = true → ρ b = some L' → L'.c ≠ L.c) (hbel : Kept B.K w w')
    (hkeep : ∀ k, k ≠ L.c → k < w.heap.size → w'.heap[k]? = w.heap[k]?) (hm : OM ρ o L w') : Rel P B (upd ρ s.nx L) (s.push o) w' := by
  have hf : ρ s.nx = none := R.fresh _ (Nat.le_refl _)
  have hmono := upd_mono (L := L) hf
  have hsz : w.heap.size ≤ w'.heap.size := hbel.size
  have hne : ∀ {b q}, s.get b = some q → b ≠ s.nx := fun h e => by have := R.key_lt h; omega
  refine ⟨R.below.trans hbel, ?_, ?_, ?_, ?_, ?_, ?_, ?_, ?_⟩
  · intro g hg
    obtain ⟨M, h1, h2⟩ := R.glob g hg
    exact ⟨M, hmono _ _ h1, h2⟩
  · intro b hb
    simp only [AS.nx_push] at hb
    rw [upd_other _ _ _ (by omega)]
    exact R.fresh b (by omega)
  · intro k hk
    have hk' : k ∈ keysOf (s.push o) := hk
    rw [AS.keys_push] at hk'
    simp only [AS.nx_push]
    rcases List.mem_cons.1 hk' with h | h
    · omega
    · have := R.keys k h; omega
  · intro b M h
    by_cases hb : b = s.nx
    · subst hb
      rw [upd_same] at h
      simp only [Option.some.injEq] at h
      subst h
      exact hlt
    · rw [upd_other _ _ _ hb] at h
      have := R.lt b M h
      omega
  · intro b q M h hM
    rw [AS.get_push] at h
    split at h
    · rename_i e
      subst e
      rw [upd_same] at hM
      simp only [Option.some.injEq] at h hM
      subst h hM
      obtain ⟨c, h1, h2⟩ := hm
      exact ⟨c, h1, h2.mono hmono⟩
    · rw [upd_other _ _ _ (hne h)] at hM
      obtain ⟨c, h1, h2⟩ := R.obj b q M h hM
      have hMlt := R.lt b M hM
      by_cases hc : M.c = L.c
      · cases hrw : q.rw with
        | true => exact absurd hc (hfree b q M h hrw hM)
        | false =>
          cases q with
          | cells ro cs =>
            have : ro = true := by simpa [AObj.rw] using hrw
            subst this
            have := R.ros b cs M h hM
            exact absurd (hc ▸ this) hB
          | map es => simp [AObj.rw] at hrw
          | dead => exact ⟨_, Array.getElem?_eq_getElem (by omega), trivial⟩
      · exact ⟨c, by rw [hkeep _ hc hMlt]; exact h1, h2.mono hmono⟩
  · intro b q M h hr hM
    rw [AS.get_push] at h
    split at h
    · rename_i e
      subst e
      rw [upd_same] at hM
      simp only [Option.some.injEq] at hM
      subst hM
      exact hB
    · rw [upd_other _ _ _ (hne h)] at hM
      exact R.own b q M h hr hM
  · intro b cs M h hM
    rw [AS.get_push] at h
    split at h
    · simp only [Option.some.injEq] at h
      subst h
      simp [AObj.rw] at ho
    · rw [upd_other _ _ _ (hne h)] at hM
      exact R.ros b cs M h hM
  · intro x y q q' Lx Ly h1 h2 h3 h4 h5 h6 h7
    rw [AS.get_push] at h1 h2
    split at h1
    · rename_i e1
      split at h2
      · rename_i e2; omega
      · subst e1
        rw [upd_same] at h5
        rw [upd_other _ _ _ (hne h2)] at h6
        simp only [Option.some.injEq] at h5
        subst h5
        exact absurd h7.symm (hfree y q' Ly h2 h4 h6)
    · rw [upd_other _ _ _ (hne h1)] at h5
      split at h2
      · rename_i e2
        subst e2
        rw [upd_same] at h6
        simp only [Option.some.injEq] at h6
        subst h6
        exact absurd h7 (hfree x q Lx h1 h3 h5)
      · rw [upd_other _ _ _ (hne h2)] at h6
        exact R.inj x y q q' Lx Ly h1 h2 h3 h4 h5 h6 h7

theorem Rel.K_lt (R : Rel P B ρ s w) : ∀ k, B.K k → k < w.heap.size := fun k hk => Nat.lt_of_lt_of_le (B.lt k hk) R.below.size
theorem Rel.new_free (R : Rel P B ρ s w) : ¬ B.K w.heap.size := fun h => Nat.lt_irrefl _ (R.K_lt _ h)

theorem Rel.push (R : Rel P B ρ s w) {o : AObj} {sz : Nat} {c : Obj} (ho : o.rw = true) (hc : OO ρ o ⟨w.heap.size, 0, sz⟩ c) :
    Rel P B (upd ρ s.nx ⟨w.heap.size, 0, sz⟩) (s.push o) (w.alloc c) := by
  refine R.pushAt ho R.new_free (by simp) ?_ ?_ ?_ ⟨c, heap_alloc_new w c, hc⟩
  · intro b o' L' h hr hL' e
    have := R.lt b L' hL'
    simp only at e
    omega
  · exact (Kept.refl _ _).alloc R.K_lt _
  · intro k hk hlt
    exact Below.heap_alloc w c k hlt

/-- What a step leaves. -/
structure Post (P : Program) (B : Base) (ρ : Ren) (s : AS) (w : World) (ρ' : Ren) (s' : AS) (w' : World) : Prop where
  rel : Rel P B ρ' s' w'
  ext : ∀ b, b < s.nx → ρ' b = ρ b
  unt : ∀ b, b < s.nx → ρ b = none → s'.get b = s.get b
  shape : Shape s s'
  size : w.heap.size ≤ w'.heap.size

theorem Post.mono {ρ' : Ren} {s' : AS} (R : Rel P B ρ s w) (h : Post P B ρ s w ρ' s' w') : ∀ b L, ρ b = some L → ρ' b = some L := by
  intro b L hb
  rcases Nat.lt_or_ge b s.nx with hlt | hge
  · rw [h.ext b hlt, hb]
  · rw [R.fresh b hge] at hb; cases hb
theorem Post.refl (R : Rel P B ρ s w) : Post P B ρ s w ρ s w := ⟨R, fun _ _ => rfl, fun _ _ _ => rfl, .refl s, Nat.le_refl _⟩
theorem Post.trans {ρ' ρ'' : Ren} {s' s'' : AS} {w'' : World} (h : Post P B ρ s w ρ' s' w') (k : Post P B ρ' s' w' ρ'' s'' w'') : Post P B ρ s w ρ'' s'' w'' :=
  ⟨k.rel, fun b hb => by rw [k.ext b (Nat.lt_of_lt_of_le hb h.shape.nx), h.ext b hb],
   fun b hb hn => by rw [k.unt b (Nat.lt_of_lt_of_le hb h.shape.nx) (by rw [h.ext b hb, hn]), h.unt b hb hn], h.shape.trans k.shape, Nat.le_trans h.size k.size⟩
end
end Go.Mini

namespace Go.Mini
open Go Go.RowKit
section
variable {P : Program} {B : Base} {ρ : Ren} {s : AS} {w : World} {ts : List AV} {a : Act}

theorem oo_new {cs : List AV} {arr : Array Value} {e : TypeId} (h : VRels ρ cs arr.toList) (c : Nat) : OO ρ (.cells false cs) ⟨c, 0, arr.size⟩ (.cells arr e) :=
  ⟨arr, e, (0, 0), rfl, rfl, fun _ => rfl, arr.toList, h, fun i v hv => by simpa using hv⟩

theorem repeatL_get {zs : List AV} {size : Nat} (hz : zs.length = size) (hs : 0 < size) : ∀ (n i : Nat) (x : AV), (repeatL n zs)[i]? = some x → i < n * size ∧ zs[i % size]? = some x
  | 0, i, x, h => by simp [repeatL] at h
  | n + 1, i, x, h => by
    simp only [repeatL] at h
    rw [List.getElem?_append] at h
    split at h
    · rename_i hi
      refine ⟨by rw [Nat.add_mul]; omega, ?_⟩
      rw [Nat.mod_eq_of_lt (by omega)]
      exact h
    · rename_i hi
      obtain ⟨h1, h2⟩ := repeatL_get hz hs n (i - zs.length) x h
      refine ⟨by rw [Nat.add_mul]; omega, ?_⟩
      rw [hz] at h2
      rw [Nat.mod_eq_sub_mod (by omega)]
      exact h2
theorem repeatL_length (zs : List AV) : ∀ n, (repeatL n zs).length = n * zs.length
  | 0 => by simp [repeatL]
  | n + 1 => by simp [repeatL, repeatL_length zs n, Nat.add_mul]; omega

theorem zeros_rel {zs : List AV} {ws : Array Value} {size : Nat} (hz : VRels ρ zs ws.toList) (hl : zs.length = size) (hs : 0 < size) (n : Nat) :
    VRels ρ (repeatL n zs) (((Array.range (n * size)).map fun i => ws[i % ws.size]!).toList) := by
  have hws : ws.size = size := by have := hz.length; simp at this; omega
  refine .of_get (by simp [repeatL_length, hl]) fun i x v h1 h2 => ?_
  obtain ⟨hi, hx⟩ := repeatL_get hl hs n i x h1
  obtain ⟨u, hu, hr⟩ := hz.get hx
  have hlt : i % size < ws.size := by rw [hws]; exact Nat.mod_lt _ hs
  have h2' : ws[i % ws.size]! = v := by
    simp only [Array.toList_map, List.getElem?_map, Array.toList_range] at h2
    rw [List.getElem?_range hi] at h2
    simpa using h2
  rw [hws] at h2'
  have h3 : ws[i % size]! = u := by
    have : ws[i % size]? = some u := by simpa using hu
    simp [getElem!_def, this]
  rw [← h2', h3]
  exact hr

theorem newRow_run (e : TypeId) (cells : Array Value) : (newRow e cells).run P w = .ok ⟨w.heap.size, 0, none⟩ (w.alloc (.cells cells e)) := by
  simp [newRow]

theorem beq_ne {n m : Nat} (h : Nat.beq n m = false) : n ≠ m := fun e => by subst e; simp at h

theorem range_zero {n : Nat} (h : n = 0) (f g : Nat → Value) : (Array.range n).map f = (Array.range n).map g := by subst h; simp

theorem sum_rel (ht : TR ρ ts a) (hg : GR P ρ) (o : Oper) {b : Nat} {v : AV} {ob : AObj} (h : allocA P ts b o.op = some (v, ob)) :
    ∃ u c sz, (execOp a.eval o).run P w = .ok (.value u) (w.alloc c) ∧ ob.rw = true ∧ OO ρ ob ⟨w.heap.size, 0, sz⟩ c ∧ VRel (upd ρ b ⟨w.heap.size, 0, sz⟩) v u := by
  have hp : ∀ sz, VRel (upd ρ b ⟨w.heap.size, 0, sz⟩) (.ptr b 0) (.pointer (some ⟨w.heap.size, 0, none⟩)) := fun sz => by
    rw [vrel_ptr]; exact ⟨_, upd_same _ _ _, rfl⟩
  have hsl : ∀ sz n m, n ≤ m → VRel (upd ρ b ⟨w.heap.size, 0, sz⟩) (.slice b 0 n m) (.slice (some ⟨w.heap.size, 0, none⟩) n m) := fun sz n m hnm => by
    rw [vrel_slice]; exact ⟨_, rfl, hnm, fun _ => ⟨_, upd_same _ _ _, rfl⟩⟩
  cases hop : o.op with
  | alloc t =>
    rw [hop] at h
    simp only [allocA] at h
    split at h
    · rename_i z hz
      obtain ⟨zv, _, hzr, hzv⟩ := zeroA_run hz
      simp only [Option.some.injEq, Prod.mk.injEq] at h
      obtain ⟨rfl, rfl⟩ := h
      refine ⟨_, _, _, ?_, rfl, oo_new (e := t) (vrel_cells (hzv ρ)) _, hp _⟩
      simp [execOp, hop, Instr.alloc, hzr, newVar, newRow]
    · simp at h
  | box t x =>
    rw [hop] at h
    simp only [allocA] at h
    split at h
    · rename_i z hz
      simp only [Option.some.injEq, Prod.mk.injEq] at h
      obtain ⟨rfl, rfl⟩ := h
      refine ⟨_, _, _, ?_, rfl, oo_new (e := t) (vrel_cells (evA_rel hg ht hz)) _, hp _⟩
      simp [execOp, hop, Instr.box, newVar, newRow]
    · simp at h
  | buildSlice t len parts =>
    rw [hop] at h
    simp only [allocA] at h
    split at h
    · rename_i elem hu
      split at h
      · rename_i size z l hs hz hl
        obtain ⟨zv, _, hzr, hzv⟩ := zeroA_run hz
        split at h
        · rename_i hc
          simp only [Bool.and_eq_true, Bool.not_eq_true'] at hc
          obtain ⟨⟨hc1, hc2⟩, hc3⟩ := hc
          have hc1' : len * size ≤ 16777216 := by simpa using hc1
          have hc2' : z.cells.length = size := by simpa using hc2
          have hc3' : size ≠ 0 := beq_ne hc3
          split at h
          · rename_i cs hcs
            simp only [Option.some.injEq, Prod.mk.injEq] at h
            obtain ⟨rfl, rfl⟩ := h
            have hzc := vrel_cells (hzv ρ)
            obtain ⟨arr, ha, hr⟩ := fillA_run (arr := (Array.range (len * size)).map fun i => zv.cells[i % zv.cells.size]!) hcs (evParts_rel hg ht hl) (zeros_rel hzc hc2' (by omega) len)
            refine ⟨_, _, _, ?_, rfl, oo_new (e := elem) hr _, hsl _ _ _ (Nat.le_refl _)⟩
            have hnot : ¬ (len * size > 2 ^ 24) := by omega
            simp only [execOp, hop, Instr.buildSlice, Sem.run_bind, run_underlying hu, Result.andThen_ok, sizeA_run hs, if_neg hnot]
            by_cases hz0 : len * size = 0
            · rw [if_pos hz0, prels_eq]
              simp only [Sem.run_bind, Sem.run_pure, Result.andThen_ok]
              rw [range_zero hz0 _ (fun i => zv.cells[i % zv.cells.size]!), ha]
              simp [newRow_run]
            · rw [if_neg hz0, prels_eq]
              simp only [Sem.run_bind, hzr, Sem.run_pure, Result.andThen_ok]
              rw [ha]
              simp [newRow_run]
          · simp at h
        · simp at h
      · simp at h
    · simp at h
  | makeMap t r =>
    rw [hop] at h
    simp only [allocA] at h
    have hm : ∀ sz, VRel (upd ρ b ⟨w.heap.size, 0, sz⟩) (.map b) (.map (some w.heap.size)) := fun sz => by
      rw [vrel_map]; exact ⟨_, upd_same _ _ _, rfl⟩
    split at h
    · simp only [Option.some.injEq, Prod.mk.injEq] at h
      obtain ⟨rfl, rfl⟩ := h
      exact ⟨.map (some w.heap.size), .map #[] 0, 0, by simp [execOp, hop, Instr.makeMap], rfl, ⟨#[], rfl, by simp [ERel], rfl⟩, hm _⟩
    · rename_i x
      split at h
      · rename_i k e kk n hu hx
        have hxx := evA_rel hg ht hx
        simp only [vrel_int] at hxx
        simp only [Option.some.injEq, Prod.mk.injEq] at h
        obtain ⟨rfl, rfl⟩ := h
        exact ⟨.map (some w.heap.size), .map #[] 0, 0, by simp [execOp, hop, Instr.makeMap, hxx, run_underlying hu, asInt, asIntOf], rfl, ⟨#[], rfl, by simp [ERel], rfl⟩, hm _⟩
      · simp at h
  | makeSlice t l c =>
    rw [hop] at h
    simp only [allocA] at h
    split at h
    · rename_i elem kl m kc n hu hl hc
      have hll := evA_rel hg ht hl
      have hcc := evA_rel hg ht hc
      simp only [vrel_int] at hll hcc
      split at h
      · rename_i size bytes z hs hby hz
        obtain ⟨zv, _, hzr, hzv⟩ := zeroA_run hz
        split at h
        · rename_i hq
          simp only [Bool.and_eq_true, Bool.not_eq_true', decide_eq_true_eq] at hq
          obtain ⟨⟨⟨⟨⟨h1, h2⟩, h3⟩, h4⟩, h5⟩, h6⟩ := hq
          have h4' : bytes ≤ 4096 := by simpa using h4
          have h5' : z.cells.length = size := by simpa using h5
          have h6' : size ≠ 0 := beq_ne h6
          simp only [Option.some.injEq, Prod.mk.injEq] at h
          obtain ⟨rfl, rfl⟩ := h
          have hzc := vrel_cells (hzv ρ)
          have hzr2 := zeros_rel hzc h5' (by omega) n.toNat
          have hw : ∀ q : Int, 0 ≤ q → q ≤ 16777216 → IntKind.i64.wrap q = q := by
            intro q hq1 hq2
            rw [IntKind.wrap_i64]
            omega
          have hbytes : P.info? elem = some ((P.info? elem).getD default) ∧ ((P.info? elem).getD default).bytes = bytes := by
            unfold bytesA at hby
            split at hby
            · rename_i i hi
              simp only [Option.some.injEq] at hby
              simp [hi, hby]
            · simp at hby
          have hty : ∀ W, (typeInfo elem).run P W = .ok ((P.info? elem).getD default) W := fun W => by
            unfold typeInfo
            simp only [Sem.run_bind, run_program, Result.andThen_ok]
            rw [hbytes.1]
            rfl
          have hprod : (bytes : Int) * n ≤ 281474976710656 := by
            have : (bytes : Int) * n ≤ 4096 * 16777216 := Int.mul_le_mul (by omega) h3 (by omega) (by omega)
            omega
          have hprod' : ¬ ((281474976710656 : Int) < bytes * n) := by omega
          refine ⟨.slice (some ⟨w.heap.size, 0, none⟩) m.toNat n.toNat, _, _, ?_, rfl, oo_new (e := elem) hzr2 _, hsl _ _ _ (by omega)⟩
          have hn0 : ¬ n < 0 := by omega
          have hm0 : ¬ m < 0 := by omega
          have hmn : ¬ m > n := by omega
          have hlarge : (decide (n < 0) || decide ((bytes : Int) * n > 2 ^ 48)) = false := by
            simp only [Bool.or_eq_false_iff, decide_eq_false_iff_not]
            exact ⟨hn0, by omega⟩
          simp only [execOp, hop, Instr.makeSlice, Sem.run_bind, run_underlying hu, Result.andThen_ok, hll, hcc, asInt, asIntOf, Sem.run_pure, hty, hbytes.2, hw m h1 (by omega), hw n (by omega) h3]
          have hcond : ¬ (((decide (n < 0) || decide ((bytes : Int) * n > 2 ^ 48)) || decide (m < 0) || decide (m > n)) = true) := by
            rw [hlarge]
            simp only [Bool.false_or, Bool.or_eq_true, decide_eq_true_eq, not_or]
            exact ⟨hm0, hmn⟩
          rw [if_neg hcond]
          simp only [Sem.run_bind, run_askRoom, Result.andThen_ok, sizeA_run hs]
          by_cases hz0 : n.toNat * size = 0
          · rw [if_pos hz0]
            simp only [Sem.run_bind, Sem.run_pure, Result.andThen_ok]
            rw [range_zero hz0 _ (fun i => zv.cells[i % zv.cells.size]!)]
            simp [newRow_run]
          · rw [if_neg hz0]
            simp only [Sem.run_bind, hzr, Sem.run_pure, Result.andThen_ok]
            simp [newRow_run]
        · simp at h
      · simp at h
    · simp at h
  | _ => rw [hop] at h; simp [allocA] at h
end
end Go.Mini

namespace Go.Mini
open Go Go.RowKit
section
variable {P : Program} {B : Base} {ρ : Ren} {s : AS} {w : World} {ts : List AV} {a : Act}

theorem one_rel {x : AV} {v : Value} (h : x.one = true) (hx : VRel ρ x v) : v.oneCell' = true := by
  cases v <;> first | rfl | skip
  · obtain ⟨xs, rfl⟩ := vrel_inv_agg (by rintro l rfl; simp [AV.one] at h) hx
    simp [AV.one] at h
  · exfalso
    cases x <;> simp at hx
    simp [AV.one] at h
theorem ones_rel : ∀ {xs : List AV} {vs : List Value}, xs.all AV.one = true → VRels ρ xs vs → ∀ v ∈ vs, v.oneCell' = true
  | [], vs, _, hv => by simp at hv; simp [hv]
  | x :: xs, vs, h, hv => by
    rw [vrels_cons] at hv
    obtain ⟨u, us, rfl, h1, h2⟩ := hv
    simp only [List.all_cons, Bool.and_eq_true] at h
    intro v hm
    rcases List.mem_cons.1 hm with rfl | hm
    · exact one_rel h.1 h1
    · exact ones_rel h.2 h2 v hm

/-- A row written over a row, inside a greater one. -/
theorem splice_at {arr : List Value} {vs ws : List Value} {d o : Nat} (h : ∀ i v, vs[i]? = some v → arr[d + i]? = some v) (hl : o + ws.length ≤ vs.length) (hsz : d + o + ws.length ≤ arr.length) :
    ∀ i v, (vs.take o ++ (ws ++ vs.drop (o + ws.length)))[i]? = some v → (arr.take (d + o) ++ ws ++ arr.drop (d + o + ws.length))[d + i]? = some v := by
  intro i v hi
  rw [List.append_assoc]
  rw [List.getElem?_append] at hi ⊢
  simp only [List.length_take] at hi ⊢
  by_cases h1 : i < o
  · rw [if_pos (by omega), List.getElem?_take, if_pos h1] at hi
    rw [if_pos (by omega), List.getElem?_take, if_pos (by omega)]
    exact h i v hi
  · rw [if_neg (by omega)] at hi ⊢
    rw [show min o vs.length = o from by omega] at hi
    rw [show d + i - min (d + o) arr.length = i - o from by omega]
    rw [List.getElem?_append] at hi ⊢
    by_cases h2 : i - o < ws.length
    · rw [if_pos h2] at hi ⊢
      exact hi
    · rw [if_neg h2] at hi ⊢
      rw [List.getElem?_drop] at hi ⊢
      have := h _ _ hi
      rw [← this]
      congr 1
      omega

theorem write_run (R : Rel P B ρ s w) {b o : Nat} {xs : List AV} {ws : List Value} {s' : AS} {L : Loc} (h : writeA s b o xs = some s') (hL : ρ b = some L) (hx : VRels ρ xs ws) :
    ∃ w', (storeCells ⟨L.c, L.d + o, none⟩ ws).run P w = .ok () w' ∧ Post P B ρ s w ρ s' w' := by
  unfold writeA at h
  split at h
  · rename_i cs hb
    split at h
    · rename_i hone
      split at h
      · rename_i cs' hs
        simp only [Option.some.injEq] at h
        subst h
        obtain ⟨arr, e, fz, h1, h2, h3, vs, h4, h5⟩ := Rel.row (R := R) hb hL
        have hfz : fz = (0, 0) := h3 rfl
        subst hfz
        obtain ⟨k1, k2⟩ := splice_eq hs
        have hxl := hx.length
        have hvl := h4.length
        have fin : ∀ w', SameBut w w' L.c → OM ρ (.cells false cs') L w' → Post P B ρ s w ρ (noteEsc (s.set b (.cells false cs')) b (xs.any (AV.young b))) w' := by
          intro w' hw hm
          have R' := R.update hb rfl hL hw (.inr rfl) hm
          refine ⟨R'.congr (fun _ => by simp) (by simp) (by simp), fun _ _ => rfl, ?_, (Shape.set s b _).trans (Shape.noteEsc _ _ _), Nat.le_of_eq hw.size.symm⟩
          intro b' _ hn
          rw [noteEsc_get, AS.get_set]
          have : b' ≠ b := fun e => by rw [e, hL] at hn; cases hn
          simp [this]
        by_cases hemp : ws = []
        · subst hemp
          have hx0 : xs = [] := by
            cases xs with
            | nil => rfl
            | cons x xs => simp at hxl
          subst hx0
          refine ⟨w, by simp [storeCells], fin w ⟨rfl, rfl, rfl, rfl, fun _ _ => rfl⟩ ?_⟩
          refine ⟨_, h1, arr, e, (0, 0), rfl, h2, fun _ => rfl, vs, ?_, h5⟩
          rw [k2]
          simpa using h4
        · have hpos : 0 < ws.length := by cases ws <;> simp at hemp ⊢
          have hlast : ∃ v, vs[o + ws.length - 1]? = some v := ⟨_, List.getElem?_eq_getElem (by omega)⟩
          obtain ⟨vl, hvl2⟩ := hlast
          have hal := h5 _ _ hvl2
          have hlt : L.d + (o + ws.length - 1) < arr.size := by
            rcases Nat.lt_or_ge (L.d + (o + ws.length - 1)) arr.size with h' | h'
            · exact h'
            · rw [Array.getElem?_eq_none h'] at hal; cases hal
          have hrun := run_storeCells_at P L.c (L.d + o) e ws 0 arr w h1 (by omega) (ones_rel hone hx)
          simp only [Nat.add_zero] at hrun
          refine ⟨_, hrun, fin _ ⟨rfl, rfl, rfl, by simp, fun k hk => setRow_other _ _ _ _ hk⟩ ?_⟩
          refine ⟨_, setRow_heap w L.c arr _ e (0, 0) h1, _, e, (0, 0), rfl, ?_, fun _ => rfl, vs.take o ++ (ws ++ vs.drop (o + ws.length)), ?_, ?_⟩
          · simp
            omega
          · rw [k2]
            have := VRels.splice (ρ := ρ) o h4 hx
            exact this
          · intro i v hi
            have := splice_at (arr := arr.toList) (d := L.d) (fun i v hv => by simpa using h5 i v hv) (by omega) (by simp; omega) i v hi
            simpa using this
      · simp at h
    · simp at h
  · simp at h

theorem store_run (R : Rel P B ρ s w) {t : TypeId} {p x : AV} {s' : AS} {vp vx : Value} (h : storeA P s t p x = some s') (hp : VRel ρ p vp) (hx : VRel ρ x vx) :
    ∃ w', (Instr.storeAt t vp vx).run P w = .ok () w' ∧ Post P B ρ s w ρ s' w' := by
  unfold storeA at h
  split at h
  · rename_i b o
    rw [vrel_ptr] at hp
    obtain ⟨L, hL, rfl⟩ := hp
    split at h
    · rename_i n hn
      split at h
      · rename_i hl
        have hc := vrel_cells hx
        obtain ⟨w', h1, h2⟩ := write_run R h hL hc
        refine ⟨w', ?_, h2⟩
        have hl' : x.cells.length = n := by simpa using hl
        have hlen := hc.length
        simp only [Array.length_toList] at hlen
        simp only [Instr.storeAt, Instr.sureAddr, storeVar, Sem.run_bind, Sem.run_pure, Result.andThen_ok, sizeA_run hn]
        rw [if_neg (by omega)]
        exact h1
      · simp at h
    · simp at h
  · simp at h

/-! ### maps that turn -/
theorem bitEq1_run {x y : AV} {vx vy : Value} (h : bitEq1 x y = true) (hx : VRel ρ x vx) (hy : VRel ρ y vy) : ∀ n, Instr.sameBits n vx vy = true := by
  unfold bitEq1 at h
  split at h
  · simp only [vrel_int] at hx hy
    subst hx hy
    intro n
    simp only [Bool.and_eq_true, decide_eq_true_eq] at h
    cases n <;> simp [Instr.sameBits, h.1] <;> simpa using h.2
  · simp only [vrel_bool] at hx hy
    subst hx hy
    intro n
    cases n <;> simpa [Instr.sameBits] using h
  · simp only [vrel_str] at hx hy
    subst hx hy
    intro n
    cases n <;> simp only [Instr.sameBits] <;> exact h
  · simp at h
theorem bitEqs_run : ∀ {xs ys : List AV} {vs ws : List Value}, bitEqs xs ys = true → VRels ρ xs vs → VRels ρ ys ws → ∀ n, vs.length = ws.length ∧ (vs.zip ws).all (fun (x, y) => Instr.sameBits n x y) = true
  | [], [], vs, ws, _, h1, h2, n => by simp at h1 h2; simp [h1, h2]
  | [], _ :: _, _, _, h, _, _, _ => by simp [bitEqs] at h
  | _ :: _, [], _, _, h, _, _, _ => by simp [bitEqs] at h
  | x :: xs, y :: ys, vs, ws, h, h1, h2, n => by
    rw [vrels_cons] at h1 h2
    obtain ⟨v, vs', rfl, a1, a2⟩ := h1
    obtain ⟨u, us', rfl, b1, b2⟩ := h2
    simp only [bitEqs, Bool.and_eq_true] at h
    obtain ⟨c1, c2⟩ := bitEqs_run h.2 a2 b2 n
    have := bitEq1_run h.1 a1 b1 n
    simp [c1, c2, this]
theorem bitEq_run {x y : AV} {vx vy : Value} (h : bitEq x y = true) (hx : VRel ρ x vx) (hy : VRel ρ y vy) : Instr.sameBits 10000 vx vy = true := by
  unfold bitEq at h
  split at h
  · rw [vrel_agg] at hx hy
    obtain ⟨vs, rfl, h1⟩ := hx
    obtain ⟨ws, rfl, h2⟩ := hy
    obtain ⟨c1, c2⟩ := bitEqs_run h h1 h2 9999
    have : Instr.sameBits (9999 + 1) (.agg vs.toArray) (.agg ws.toArray) = true := by
      simp only [Instr.sameBits, List.size_toArray, c1, beq_self_eq_true, Bool.true_and]
      exact c2
    exact this
  · exact bitEq1_run h hx hy _

theorem ERel.setAt : ∀ {es : List (AV × AV)} {l : List MapEntry} (i : Nat) {k v : AV} {vk vv : Value}, ERel ρ es l → VRel ρ k vk → VRel ρ v vv →
    ERel ρ (setAt es i (k, v)) (l.modify i fun e => { e with key := vk, val := vv })
  | [], l, i, k, v, vk, vv, h, _, _ => by simp [ERel] at h; subst h; simp [Mini.setAt, ERel]
  | (a, b) :: es, l, i, k, v, vk, vv, h, h1, h2 => by
    obtain ⟨e, r, rfl, k1, k2, k3⟩ := h
    cases i with
    | zero => simp only [Mini.setAt, List.modify_zero_cons]; exact ⟨_, _, rfl, h1, h2, k3⟩
    | succ i => simp only [Mini.setAt, List.modify_succ_cons]; exact ⟨_, _, rfl, k1, k2, ERel.setAt i k3 h1 h2⟩
theorem ERel.eraseAt : ∀ {es : List (AV × AV)} {l : List MapEntry} (i : Nat), ERel ρ es l → ERel ρ (eraseAt es i) (l.eraseIdx i)
  | [], l, i, h => by simp [ERel] at h; subst h; simp [Mini.eraseAt, ERel]
  | (a, b) :: es, l, i, h => by
    obtain ⟨e, r, rfl, k1, k2, k3⟩ := h
    cases i with
    | zero => simpa [Mini.eraseAt] using k3
    | succ i => simp only [Mini.eraseAt, List.eraseIdx_cons_succ]; exact ⟨_, _, rfl, k1, k2, ERel.eraseAt i k3⟩
theorem ERel.snoc : ∀ {es : List (AV × AV)} {l : List MapEntry} {k v : AV} {e : MapEntry}, ERel ρ es l → VRel ρ k e.key → VRel ρ v e.val → ERel ρ (es ++ [(k, v)]) (l ++ [e])
  | [], l, k, v, e, h, h1, h2 => by simp [ERel] at h; subst h; exact ⟨e, [], rfl, h1, h2, rfl⟩
  | (a, b) :: es, l, k, v, e, h, h1, h2 => by
    obtain ⟨f, r, rfl, k1, k2, k3⟩ := h
    exact ⟨f, r ++ [e], rfl, k1, k2, ERel.snoc k3 h1 h2⟩

/-- A map that is set anew. -/
def World.setMap (w : World) (r : Nat) (o : Obj) : World := { w with heap := w.heap.setIfInBounds r o }
theorem setObj_run {r : Nat} {o o' : Obj} (h : w.heap[r]? = some o) (hc : ∀ a e f, o ≠ .cells a e f) : (setObj r o').run P w = .ok () (World.setMap w r o') := by
  cases o <;> first | exact absurd rfl (hc _ _ _) | simp [setObj, Sem.run, h, World.setMap]
theorem setMap_same {r : Nat} {o o' : Obj} (h : w.heap[r]? = some o) : (World.setMap w r o').heap[r]? = some o' := by
  have := (Array.getElem?_eq_some_iff.1 h).1
  simp [World.setMap, this]
theorem setMap_but (r : Nat) (o' : Obj) : SameBut w (World.setMap w r o') r :=
  ⟨rfl, rfl, rfl, by simp [World.setMap], fun k hk => by simp [World.setMap, Array.getElem?_setIfInBounds_ne (Ne.symm hk)]⟩

theorem Post.ofUpdate (R : Rel P B ρ s w) {b : Nat} {o o' : AObj} {L : Loc} {w' : World} {y : Bool} (hb : s.get b = some o) (ho : o.rw = true) (hL : ρ b = some L) (hw : SameBut w w' L.c)
    (ho' : o' = .dead ∨ o'.rw = true) (hm : OM ρ o' L w') : Post P B ρ s w ρ (noteEsc (s.set b o') b y) w' := by
  have R' := R.update hb ho hL hw ho' hm
  refine ⟨R'.congr (fun _ => by simp) (by simp) (by simp), fun _ _ => rfl, ?_, (Shape.set s b _).trans (Shape.noteEsc _ _ _), Nat.le_of_eq hw.size.symm⟩
  intro b' _ hn
  rw [noteEsc_get, AS.get_set]
  have : b' ≠ b := fun e => by rw [e, hL] at hn; cases hn
  simp [this]

theorem Post.ofMap (R : Rel P B ρ s w) {b : Nat} {es es' : List (AV × AV)} {bn bn' : List Nat} {ck : Nat} {L : Loc} {c : Obj} {ents' : Array MapEntry} {clk' : Nat} (y : Bool) (hb : s.get b = some (.map es bn ck)) (hL : ρ b = some L)
    (hh : w.heap[L.c]? = some c) (he : ERel ρ es' ents'.toList) (hn : ents'.toList.map (·.born) = bn') : Post P B ρ s w ρ (noteEsc (s.set b (.map es' bn' clk')) b y) (World.setMap w L.c (.map ents' clk')) :=
  Post.ofUpdate R hb rfl hL (setMap_but L.c _) (.inr rfl) ⟨_, setMap_same hh, ents', rfl, he, hn⟩

theorem mapAt_get {b ck : Nat} {es : List (AV × AV)} {bn : List Nat} (h : mapAt s b = some (es, bn, ck)) : s.get b = some (.map es bn ck) := by
  unfold mapAt at h
  split at h
  · rename_i hb; simp only [Option.some.injEq, Prod.mk.injEq] at h; obtain ⟨rfl, rfl, rfl⟩ := h; exact hb
  · simp at h
theorem modify_map {f : MapEntry → MapEntry} (hf : ∀ e, (f e).born = e.born) : ∀ (i : Nat) (l : List MapEntry), (l.modify i f).map (·.born) = l.map (·.born)
  | _, [] => by simp
  | 0, x :: l => by simp [hf]
  | i + 1, x :: l => by simp [modify_map hf i l]
theorem eraseIdx_map : ∀ (i : Nat) (l : List MapEntry), (l.eraseIdx i).map (·.born) = (l.map (·.born)).eraseIdx i
  | _, [] => by simp
  | 0, x :: l => by simp
  | i + 1, x :: l => by simp [eraseIdx_map i l]

theorem update_run (R : Rel P B ρ s w) {t : TypeId} {m k x : AV} {s' : AS} {vm vk vx : Value} (h : updateA P s t m k x = some s') (hm : VRel ρ m vm) (hk : VRel ρ k vk) (hx : VRel ρ x vx) :
    ∃ w', (Instr.mapUpdate t vm vk vx).run P w = .ok () w' ∧ Post P B ρ s w ρ s' w' := by
  unfold updateA at h
  split at h
  · rename_i kt et b hu
    rw [vrel_map] at hm
    obtain ⟨L, hL, rfl⟩ := hm
    split at h
    · rename_i hkey
      obtain ⟨d, hd⟩ := keyA_under hkey
      have hck : ∀ e, (Instr.checkKey e 10000 kt vk).run P w = .ok () w := fun e => keyA_run 4 kt k vk e 10000 hkey hk (by omega)
      split at h
      · rename_i es bn clk hes
        obtain ⟨ents, hheap, herel, hborn⟩ := mapAt_run R hes hL
        have hobj := getObj_run (P := P) hheap (by simp)
        have hget := mapAt_get hes
        split at h
        · rename_i i old v hfa
          split at h
          · simp at h
          · rename_i hbit
            have hbit' : bitEq old k = true := by simpa using hbit
            simp only [Option.some.injEq] at h
            subst h
            obtain ⟨hf, hg⟩ := findKey_run R hd hk hfa herel
            obtain ⟨e, he1, he2, he3⟩ := herel.get (hg _ rfl)
            simp only [Option.bind_some, he1, Option.map_some] at hf
            have hsb := bitEq_run hbit' he2 hk
            have hso := setObj_run (P := P) (o' := .map (ents.modify i fun e => { e with key := vk, val := vx }) clk) hheap (by simp)
            refine ⟨_, ?_, Post.ofMap R _ hget hL hheap (ents' := ents.modify i fun e => { e with key := vk, val := vx }) (clk' := clk) ?_ (by rw [Array.toList_modify]; exact (modify_map (f := fun e => { e with key := vk, val := vx }) (fun e => by rfl) _ _).trans hborn)⟩
            · have he1' : ents[i]? = some e := by simpa using he1
              simp only [Instr.mapUpdate, Sem.run_bind, run_underlying hu, Result.andThen_ok, hobj, hck, hf, he1', Option.map_some, Option.getD_some, Instr.keyThatStays, hsb, if_true, Sem.run_pure]
              exact hso
            · rw [Array.toList_modify]
              exact ERel.setAt i herel hk hx
        · rename_i hfa
          simp only [Option.some.injEq] at h
          subst h
          obtain ⟨hf, hg⟩ := findKey_run R hd hk hfa herel
          simp only [Option.bind_none] at hf
          have hso := setObj_run (P := P) (o' := .map (ents.push { key := vk, val := vx, born := clk }) (clk + 1)) hheap (by simp)
          refine ⟨_, ?_, Post.ofMap R _ hget hL hheap (ents' := ents.push { key := vk, val := vx, born := clk }) (clk' := clk + 1) ?_ (by simp [← hborn])⟩
          · simp only [Instr.mapUpdate, Sem.run_bind, run_underlying hu, Result.andThen_ok, hobj, hck, hf]
            exact hso
          · rw [Array.toList_push]
            exact ERel.snoc herel hk hx
        · simp at h
      · simp at h
    · simp at h
  · simp at h

theorem entry_run (R : Rel P B ρ s w) {t : TypeId} {m k v : AV} {n : Nat} {s' : AS} {vm vk : Value} (h : entryA P s t m k = some (v, n, s')) (hm : VRel ρ m vm) (hk : VRel ρ k vk) :
    ∃ u w', (Instr.mapEntry t vm vk).run P w = .ok (.tuple #[u, .int .i64 (Int.ofNat n)]) w' ∧ VRel ρ v u ∧ Post P B ρ s w ρ s' w' := by
  unfold entryA at h
  split at h
  · rename_i kt et b hu
    rw [vrel_map] at hm
    obtain ⟨L, hL, rfl⟩ := hm
    split at h
    · rename_i hkey
      obtain ⟨d, hd⟩ := keyA_under hkey
      have hck : ∀ e, (Instr.checkKey e 10000 kt vk).run P w = .ok () w := fun e => keyA_run 4 kt k vk e 10000 hkey hk (by omega)
      split at h
      · rename_i es bn clk hes
        obtain ⟨ents, hheap, herel, hborn⟩ := mapAt_run R hes hL
        have hobj := getObj_run (P := P) hheap (by simp)
        have hget := mapAt_get hes
        split at h
        · rename_i i old v0 hfa
          split at h
          · simp at h
          · rename_i hbit
            have hbit' : bitEq old k = true := by simpa using hbit
            split at h
            · rename_i n0 hn0
              simp only [Option.some.injEq, Prod.mk.injEq] at h
              obtain ⟨rfl, rfl, rfl⟩ := h
              obtain ⟨hf, hg⟩ := findKey_run R hd hk hfa herel
              obtain ⟨e, he1, he2, he3⟩ := herel.get (hg _ rfl)
              simp only [Option.bind_some, he1, Option.map_some] at hf
              have hsb := bitEq_run hbit' he2 hk
              have hso := setObj_run (P := P) (o' := .map (ents.modify i fun e => { e with key := vk }) clk) hheap (by simp)
              have he1' : ents[i]? = some e := by simpa using he1
              have hbn : e.born = n0 := by
                rw [← hborn, List.getElem?_map, he1] at hn0
                simpa using hn0
              have hrel : ERel ρ (setAt es i (k, v0)) (ents.modify i fun e => { e with key := vk }).toList := by
                have h1 := ERel.setAt i herel hk he3
                rw [Array.toList_modify]
                have h2 : ents.toList.modify i (fun f => { f with key := vk, val := e.val }) = ents.toList.modify i (fun f => { f with key := vk }) := by
                  apply List.ext_getElem?
                  intro j
                  rw [List.getElem?_modify, List.getElem?_modify]
                  by_cases hj : i = j
                  · subst hj
                    simp [he1]
                  · simp [hj]
                rw [← h2]
                exact h1
              have hp := Post.ofMap (es' := setAt es i (k, v0)) (bn' := bn) R false hget hL hheap (ents' := ents.modify i fun e => { e with key := vk }) (clk' := clk) hrel (by rw [Array.toList_modify]; exact (modify_map (f := fun e => { e with key := vk }) (fun e => by rfl) _ _).trans hborn)
              refine ⟨e.val, _, ?_, he3, hp⟩
              simp only [Instr.mapEntry, Sem.run_bind, run_underlying hu, Result.andThen_ok, hobj, hck, hf, he1', Option.map_some, Option.getD_some, Instr.keyThatStays, hsb, if_true, Sem.run_pure]
              rw [hso]
              simp [goInt, hbn]
            · simp at h
        · rename_i hfa
          split at h
          · rename_i z hz
            simp only [Option.some.injEq, Prod.mk.injEq] at h
            obtain ⟨rfl, rfl, rfl⟩ := h
            obtain ⟨hf, hg⟩ := findKey_run R hd hk hfa herel
            simp only [Option.bind_none] at hf
            obtain ⟨zv, _, hzr, hzv⟩ := zeroA_run hz
            have hso := setObj_run (P := P) (o' := .map (ents.push { key := vk, val := zv, born := clk }) (clk + 1)) hheap (by simp)
            have hp := Post.ofMap (es' := es ++ [(k, z)]) R false hget hL hheap (ents' := ents.push { key := vk, val := zv, born := clk }) (clk' := clk + 1) (by rw [Array.toList_push]; exact ERel.snoc herel hk (hzv ρ)) (by simp only [Array.toList_push, List.map_append, hborn]; rfl)
            refine ⟨zv, _, ?_, hzv ρ, hp⟩
            simp only [Instr.mapEntry, Sem.run_bind, run_underlying hu, Result.andThen_ok, hobj, hck, hf, hzr]
            rw [hso]
            simp [goInt]
          · simp at h
        · simp at h
      · simp at h
    · simp at h
  · simp at h

theorem stampAt_find : ∀ {l : List MapEntry} {n i k : Nat}, stampAt n (l.map (·.born)) k = some i → ∃ j, i = k + j ∧ l.findIdx? (fun e => ((e.born : Int) == (n : Int))) = some j
  | [], n, i, k, h => by simp [stampAt] at h
  | e :: l, n, i, k, h => by
    simp only [List.map_cons, stampAt] at h
    split at h
    · rename_i hb
      have := Nat.eq_of_beq_eq_true hb
      simp only [Option.some.injEq] at h
      exact ⟨0, by omega, by simp [List.findIdx?_cons, this]⟩
    · rename_i hb
      obtain ⟨j, hj, hf⟩ := stampAt_find h
      have hne : ¬ e.born = n := fun he => hb (by rw [he]; exact Nat.beq_refl n)
      refine ⟨j + 1, by omega, ?_⟩
      rw [List.findIdx?_cons]
      have : ((e.born : Int) == (n : Int)) = false := by simp; omega
      simp [this, hf]

theorem entryStore_run (R : Rel P B ρ s w) {t : TypeId} {m st x : AV} {s' : AS} {vm vs vx : Value} (h : entryStoreA s m st x = some s') (hm : VRel ρ m vm) (hs : VRel ρ st vs) (hx : VRel ρ x vx) :
    ∃ w', (Instr.entryStore t vm vs vx).run P w = .ok () w' ∧ Post P B ρ s w ρ s' w' := by
  unfold entryStoreA at h
  split at h
  · rename_i b kk n
    rw [vrel_map] at hm
    obtain ⟨L, hL, rfl⟩ := hm
    rw [vrel_int] at hs
    subst hs
    split at h
    · rename_i es bn ck hes
      obtain ⟨ents, hheap, herel, hborn⟩ := mapAt_run R hes hL
      have hobj := getObj_run (P := P) hheap (by simp)
      have hget := mapAt_get hes
      split at h
      · rename_i i hi
        split at h
        · rename_i k v0 hk0
          simp only [Option.some.injEq] at h
          subst h
          rw [← hborn] at hi
          obtain ⟨j, hj, hf⟩ := stampAt_find hi
          obtain rfl : i = j := by omega
          obtain ⟨e, he1, he2, he3⟩ := herel.get hk0
          have hso := setObj_run (P := P) (o' := .map (ents.modify i fun e => { e with val := vx }) ck) hheap (by simp)
          have hrel : ERel ρ (setAt es i (k, x)) (ents.modify i fun e => { e with val := vx }).toList := by
            have h1 := ERel.setAt i herel he2 hx
            rw [Array.toList_modify]
            have h2 : ents.toList.modify i (fun f => { f with key := e.key, val := vx }) = ents.toList.modify i (fun f => { f with val := vx }) := by
              apply List.ext_getElem?
              intro j
              rw [List.getElem?_modify, List.getElem?_modify]
              by_cases hj : i = j
              · subst hj
                simp [he1]
              · simp [hj]
            rw [← h2]
            exact h1
          refine ⟨_, ?_, Post.ofMap R _ hget hL hheap (ents' := ents.modify i fun e => { e with val := vx }) (clk' := ck) hrel (by rw [Array.toList_modify]; exact (modify_map (f := fun e => { e with val := vx }) (fun e => by rfl) _ _).trans hborn)⟩
          have hf' : ents.findIdx? (fun e => ((e.born : Int) == (Int.ofNat n))) = some i := by
            obtain ⟨l⟩ := ents
            simpa using hf
          simp only [Instr.entryStore, Sem.run_bind, Sem.run_pure, Result.andThen_ok, hobj, asInt, asIntOf]
          simp only [hf']
          exact hso
        · simp at h
      · simp at h
    · simp at h
  · simp at h

theorem delete_run (R : Rel P B ρ s w) {t ty : TypeId} {tys : List TypeId} {m k : AV} {s' : AS} {vm vk : Value} (h : deleteA P s t m k = some s') (hm : VRel ρ m vm) (hk : VRel ρ k vk) :
    ∃ w', (Builtin.delete_ (t :: tys).toArray ty #[vm, vk]).run P w = .ok undef w' ∧ Post P B ρ s w ρ s' w' := by
  unfold deleteA at h
  split at h
  · rename_i kt et hu
    simp only [vrel_nilMap] at hm
    subst hm
    split at h
    · rename_i hkey
      simp only [Option.some.injEq] at h
      subst h
      have hck : ∀ e, (Instr.checkKey e 10000 kt vk).run P w = .ok () w := fun e => keyA_run 4 kt k vk e 10000 hkey hk (by omega)
      exact ⟨w, by simp [Builtin.delete_, run_underlying hu, hck, undef], .refl R⟩
    · simp at h
  · rename_i kt et b hu
    rw [vrel_map] at hm
    obtain ⟨L, hL, rfl⟩ := hm
    split at h
    · rename_i hkey
      obtain ⟨d, hd⟩ := keyA_under hkey
      have hck : ∀ e, (Instr.checkKey e 10000 kt vk).run P w = .ok () w := fun e => keyA_run 4 kt k vk e 10000 hkey hk (by omega)
      split at h
      · rename_i es bn clk hes
        obtain ⟨ents, hheap, herel, hborn⟩ := mapAt_run R hes hL
        have hobj := getObj_run (P := P) hheap (by simp)
        have hget := mapAt_get hes
        split at h
        · rename_i i old v hfa
          simp only [Option.some.injEq] at h
          subst h
          obtain ⟨hf, hg⟩ := findKey_run R hd hk hfa herel
          obtain ⟨e, he1, he2, he3⟩ := herel.get (hg _ rfl)
          simp only [Option.bind_some, he1, Option.map_some] at hf
          have hso := setObj_run (P := P) (o' := .map (ents.eraseIdxIfInBounds i) clk) hheap (by simp)
          have hp := Post.ofMap (es' := eraseAt es i) R false hget hL hheap (ents' := ents.eraseIdxIfInBounds i) (clk' := clk) (by rw [Array.toList_eraseIdxIfInBounds]; exact ERel.eraseAt i herel) (by rw [Array.toList_eraseIdxIfInBounds, eraseIdx_map, hborn])
          · refine ⟨_, ?_, hp⟩
            simp only [Builtin.delete_, List.getElem?_toArray, List.getElem?_cons_zero, List.getElem?_cons_succ, Sem.run_bind, run_underlying hu, Result.andThen_ok, hobj, hck, hf]
            rw [hso]
            rfl
        · rename_i hfa
          simp only [Option.some.injEq] at h
          subst h
          obtain ⟨hf, hg⟩ := findKey_run R hd hk hfa herel
          simp only [Option.bind_none] at hf
          have hso := setObj_run (P := P) (o' := .map ents clk) hheap (by simp)
          have hsame : World.setMap w L.c (.map ents clk) = w := by
            unfold World.setMap
            have hlt := (Array.getElem?_eq_some_iff.1 hheap).1
            have : w.heap.setIfInBounds L.c (.map ents clk) = w.heap := by
              apply Array.ext
              · simp
              · intro i h1 h2
                rw [Array.getElem_setIfInBounds]
                split
                · rename_i e
                  subst e
                  exact (Array.getElem?_eq_some_iff.1 hheap).2.symm
                · rfl
            rw [this]
          refine ⟨w, ?_, .refl R⟩
          simp only [Builtin.delete_, List.getElem?_toArray, List.getElem?_cons_zero, List.getElem?_cons_succ, Sem.run_bind, run_underlying hu, Result.andThen_ok, hobj, hck, hf]
          rw [hso, hsame]
          rfl
        · simp at h
      · simp at h
    · simp at h
  · simp at h
end
end Go.Mini

namespace Go.Mini
open Go Go.RowKit
section
variable {P : Program} {B : Base} {ρ : Ren} {s : AS} {w : World}

theorem first_run (R : Rel P B ρ s w) {size n len : Nat} {y : AV} {new : List AV} {vy : Value} (h : firstA s size n y = some new) (hy : VRel ρ y vy) (hl : sliceLen y = some len) (hn : n ≤ len) :
    ∃ vals : List Value, (Builtin.firstCells size n vy).run P w = .ok vals.toArray w ∧ VRels ρ new vals ∧ (y ≠ .nilSlice → vals.length = n * size) ∧ (y = .nilSlice → new = []) := by
  have zero : ∀ (c : Addr) (k : Nat), n * size = 0 → (Builtin.firstCells size n (.slice (some c) len k)).run P w = .ok #[] w := by
    intro c k h0
    simp [Builtin.firstCells, h0, loadCells, loadCellsFrom]
  have empty : ∀ {b o : Nat}, readA s b o (n * size) = some new → n * size = 0 → new = [] := by
    intro b o hr h0
    unfold readA at hr
    rw [h0] at hr
    split at hr
    · simpa [takeN] using hr.symm
    · simp at hr
  unfold firstA at h
  split at h
  · simp only [Option.some.injEq] at h
    simp only [vrel_nilSlice] at hy
    subst h hy
    exact ⟨[], by simp [Builtin.firstCells], by simp, fun h => absurd rfl h, fun _ => rfl⟩
  · rename_i b o n' cap
    simp only [sliceLen, Option.some.injEq] at hl
    subst hl
    rw [vrel_slice] at hy
    obtain ⟨x, rfl, hlc, hxo⟩ := hy
    by_cases h0 : n * size = 0
    · have := empty h h0
      subst this
      exact ⟨[], zero _ _ h0, by simp, fun _ => by simp [h0], fun h => by cases h⟩
    · have hc : cap ≠ 0 := by
        intro e
        have : n = 0 := by omega
        exact h0 (by simp [this])
      obtain ⟨L, hL, rfl⟩ := hxo hc
      obtain ⟨vs, h1, h2, h3, _⟩ := read_run R h hL
      exact ⟨vs, by simpa [Builtin.firstCells] using h1, h2, fun _ => h3, fun h => by cases h⟩
  · rename_i b o n' esz
    simp only [sliceLen, Option.some.injEq] at hl
    subst hl
    rw [vrel_osl] at hy
    obtain ⟨L, x, k, hL, rfl, hlc, _, hxo⟩ := hy
    by_cases h0 : n * size = 0
    · have := empty h h0
      subst this
      exact ⟨[], zero _ _ h0, by simp, fun _ => by simp [h0], fun h => by cases h⟩
    · have hc : n' ≠ 0 := by
        intro e
        have : n = 0 := by omega
        exact h0 (by simp [this])
      obtain ⟨vs, h1, h2, h3, _⟩ := read_run R h hL
      rw [hxo hc]
      exact ⟨vs, by simpa [Builtin.firstCells] using h1, h2, fun _ => h3, fun h => by cases h⟩
  · simp at h

theorem lenOf_run {y : AV} {vy : Value} {n : Nat} (h : sliceLen y = some n) (hy : VRel ρ y vy) : (Builtin.lenOf vy).run P w = .ok n w := by
  unfold sliceLen at h
  split at h <;> simp only [Option.some.injEq, reduceCtorEq] at h
  · simp only [vrel_nilSlice] at hy; subst hy h; simp [Builtin.lenOf]
  · rw [vrel_slice] at hy; obtain ⟨x, rfl, _⟩ := hy; subst h; simp [Builtin.lenOf]
  · rw [vrel_osl] at hy; obtain ⟨L, x, k, _, rfl, _⟩ := hy; subst h; simp [Builtin.lenOf]

theorem growBy_le (n : Nat) : ∀ (r c : Nat), Builtin.growBy n r c ≤ 2 ^ r * (c + 192)
  | 0, c => by simp [Builtin.growBy]
  | r + 1, c => by
    simp only [Builtin.growBy]
    split
    · calc c ≤ c + 192 := by omega
        _ ≤ 2 ^ (r + 1) * (c + 192) := Nat.le_mul_of_pos_left _ (Nat.pow_pos (by omega))
    · refine Nat.le_trans (growBy_le n r _) ?_
      rw [Nat.pow_succ, Nat.mul_assoc]
      exact Nat.mul_le_mul_left _ (by omega)
theorem nextslicecap_le {need old : Nat} (h : old ≤ need) : Builtin.nextslicecap need old ≤ 16 * (need + 192) := by
  unfold Builtin.nextslicecap
  split
  · omega
  · split
    · omega
    · have := growBy_le need 4 old
      omega

theorem append_room_run {t t2 ty elem e2 : TypeId} {tys : List TypeId} {i : TypeInfo} (hu : P.underlying t = some (.slice elem)) (hu2 : P.underlying t2 = some (.slice e2)) (hi : P.info? elem = some i)
    {base : Option Addr} {sl sc n : Nat} {vy : Value} {vals : List Value} (hlen : (Builtin.lenOf vy).run P w = .ok n w) (hf : (Builtin.firstCells i.size n vy).run P w = .ok vals.toArray w) (hroom : sl + n ≤ sc)
    {w' : World} (hst : (match base with | some a => storeCells (a.add (sl * i.size)) vals | none => pure () : Sem Unit).run P w = .ok () w') :
    (Builtin.append_ (t :: t2 :: tys).toArray ty #[.slice base sl sc, vy]).run P w = .ok (.slice base (sl + n) sc) w' := by
  cases base with
  | none =>
    simp only [Sem.run_pure, Result.ok.injEq, true_and] at hst
    subst hst
    simp [Builtin.append_, run_underlying hu, run_underlying hu2, sizeOf, typeInfo, hi, hlen, hroom, hf]
  | some a =>
    simp only at hst
    simp [Builtin.append_, run_underlying hu, run_underlying hu2, sizeOf, typeInfo, hi, hlen, hroom, hf, hst]

theorem append_grow_run {t t2 ty elem e2 : TypeId} {tys : List TypeId} {i : TypeInfo} {z : Value} (hu : P.underlying t = some (.slice elem)) (hu2 : P.underlying t2 = some (.slice e2)) (hi : P.info? elem = some i) (hz : i.zero = some z)
    (hby : i.bytes ≤ 4096) {base : Option Addr} {sl sc n : Nat} {vy : Value} {olds vals : List Value} (hlen : (Builtin.lenOf vy).run P w = .ok n w)
    (ho : (Builtin.firstCells i.size sl (.slice base sl sc)).run P w.drew = .ok olds.toArray w.drew) (hf : (Builtin.firstCells i.size n vy).run P w.drew = .ok vals.toArray w.drew) (hroom : ¬ sl + n ≤ sc) (hsm : sl + n ≤ 16777216) :
    (Builtin.append_ (t :: t2 :: tys).toArray ty #[.slice base sl sc, vy]).run P w =
      .ok (.slice (some ⟨w.heap.size, 0, none⟩) (sl + n) (grownCap w (sl + n) sc elem)) (w.drew.alloc (.cells (olds.toArray ++ vals.toArray ++ Builtin.zeroCells z.cells (grownCap w (sl + n) sc elem - (sl + n))) elem)) := by
  have h1 : ¬ (9223372036854775807 < ((sl + n : Nat) : Int)) := by omega
  have h2 : Builtin.nextslicecap (sl + n) sc * i.bytes ≤ 16 * (16777216 + 192) * 4096 :=
    Nat.mul_le_mul (Nat.le_trans (nextslicecap_le (by omega)) (by omega)) hby
  have h3 : ¬ (281474976710656 < Builtin.nextslicecap (sl + n) sc * i.bytes) := by omega
  have h1' : ¬ (9223372036854775807 < (sl : Int) + n) := by omega
  simp [Builtin.append_, run_underlying hu, run_underlying hu2, sizeOf, typeInfo, zeroValue, hi, hz, hlen, hroom, h1', h3, Question.forced, ho, hf, newRow, grownCap]
  rw [← Array.append_assoc]
  simp

theorem size_zeroCells' (z : Array Value) (n : Nat) : (Builtin.zeroCells z n).size = n * z.size := by simp [Builtin.zeroCells]

theorem Rel.kill (R : Rel P B ρ s w) {b : Nat} {o : AObj} {L : Loc} (hb : s.get b = some o) (ho : o.rw = true) (hL : ρ b = some L) : Rel P B ρ (s.set b .dead) w :=
  R.update hb ho hL ⟨rfl, rfl, rfl, rfl, fun _ _ => rfl⟩ (.inl rfl) ⟨_, Array.getElem?_eq_getElem (R.lt b L hL), trivial⟩

theorem Post.drew (R : Rel P B ρ s w) : Post P B ρ s w ρ s w.drew := ⟨R.drew, fun _ _ => rfl, fun _ _ _ => rfl, .refl s, Nat.le_refl _⟩

theorem Post.push (R : Rel P B ρ s w) {o : AObj} {sz : Nat} {c : Obj} (ho : o.rw = true) (hc : OO ρ o ⟨w.heap.size, 0, sz⟩ c) :
    Post P B ρ s w (upd ρ s.nx ⟨w.heap.size, 0, sz⟩) (s.push o) (w.alloc c) := by
  refine ⟨R.push ho hc, fun b hb => upd_other _ _ _ (by omega), fun b hb _ => ?_, Shape.push s o, by simp⟩
  rw [AS.get_push, if_neg (by omega)]

theorem Post.kill (R : Rel P B ρ s w) {b : Nat} {o : AObj} {L : Loc} (hb : s.get b = some o) (ho : o.rw = true) (hL : ρ b = some L) : Post P B ρ s w ρ (s.set b .dead) w := by
  refine ⟨R.kill hb ho hL, fun _ _ => rfl, fun b' _ hn => ?_, Shape.set _ _ _, Nat.le_refl _⟩
  rw [AS.get_set]
  have : b' ≠ b := fun e => by rw [e, hL] at hn; cases hn
  simp [this]

/-- A grown row: the new block. -/
theorem grown_post (R : Rel P B ρ s w) {elem need sc size : Nat} {z : Value} {olds vals : List Value} {old new : List AV} (ho : VRels ρ old olds) (hn : VRels ρ new vals) (hzs : z.cells.size = size)
    (hl : olds.length + vals.length = need * size) :
    ∃ L, Post P B ρ s w (upd ρ s.nx L) (s.push (.cells false (old ++ new))) (w.drew.alloc (.cells (olds.toArray ++ vals.toArray ++ Builtin.zeroCells z.cells (grownCap w need sc elem - need)) elem)) ∧
      VRel (upd ρ s.nx L) (.osl s.nx 0 need size) (.slice (some ⟨w.heap.size, 0, none⟩) need (grownCap w need sc elem)) := by
  have hge := grownCap_ge w need sc elem
  have hsz : (olds.toArray ++ vals.toArray ++ Builtin.zeroCells z.cells (grownCap w need sc elem - need)).size = grownCap w need sc elem * size := by
    simp only [Array.size_append, List.size_toArray, size_zeroCells', hzs, hl, ← Nat.add_mul]
    congr 1
    omega
  have hc : OO ρ (.cells false (old ++ new)) ⟨w.drew.heap.size, 0, (olds.toArray ++ vals.toArray ++ Builtin.zeroCells z.cells (grownCap w need sc elem - need)).size⟩
      (.cells (olds.toArray ++ vals.toArray ++ Builtin.zeroCells z.cells (grownCap w need sc elem - need)) elem) := by
    refine ⟨_, elem, (0, 0), rfl, rfl, fun _ => rfl, olds ++ vals, ho.append hn, fun i v hv => ?_⟩
    rw [Nat.zero_add, ← Array.getElem?_toList]
    simp only [Array.toList_append]
    rw [List.getElem?_append_left (by have := (List.getElem?_eq_some_iff.1 hv).1; simpa using this)]
    exact hv
  refine ⟨_, (Post.drew R).trans (Post.push R.drew rfl hc), ?_⟩
  rw [vrel_osl]
  exact ⟨_, 0, _, upd_same _ _ _, rfl, hge, by rw [hsz]; simp, fun _ => rfl⟩

theorem append_run (R : Rel P B ρ s w) {t t2 ty : TypeId} {tys : List TypeId} {x y v : AV} {s' : AS} {vx vy : Value} (h : appendA P s t t2 x y = some (v, s')) (hx : VRel ρ x vx) (hy : VRel ρ y vy) :
    ∃ u w' ρ', (Builtin.append_ (t :: t2 :: tys).toArray ty #[vx, vy]).run P w = .ok u w' ∧ VRel ρ' v u ∧ Post P B ρ s w ρ' s' w' := by
  unfold appendA at h
  split at h
  · rename_i elem hu
    split at h
    · rename_i e2 hu2
      split at h
      · rename_i i hi
        split at h
        · rename_i size z n hsz0 hz hn
          have hsz : i.size = size + 1 := hsz0
          split at h
          · simp at h
          · rename_i hc
            simp only [Bool.not_eq_true, Bool.not_eq_false', Bool.and_eq_true] at hc
            obtain ⟨hc1, hc2⟩ := hc
            have hby : i.bytes ≤ 4096 := by simpa using hc1
            have hzs : z.cells.size = size + 1 := by simpa using hc2
            split at h
            · rename_i new hnew
              split at h
              · simp at h
              · rename_i hone
                have hone' : new.all AV.one = true := by simpa using hone
                have hlen := lenOf_run (P := P) (w := w) hn hy
                rw [← hsz] at hnew hzs
                obtain ⟨vals, hf, hvals, hvl, hvn⟩ := first_run R hnew hy hn (Nat.le_refl _)
                obtain ⟨vals', hf', hvals', hvl', hvn'⟩ := first_run R.drew hnew hy hn (Nat.le_refl _)
                have hvlen : vals'.length = n * i.size := by
                  by_cases hyn : y = .nilSlice
                  · have h1 := hvn' hyn
                    subst hyn
                    simp only [sliceLen, Option.some.injEq] at hn
                    have := hvals'.length
                    rw [h1] at this
                    simp [this, ← hn]
                  · exact hvl' hyn
                have hvlen2 : vals.length = n * i.size := by
                  have h1 := hvals.length
                  have h2 := hvals'.length
                  omega
                split at h
                · simp only [vrel_nilSlice] at hx
                  subst hx
                  split at h
                  · rename_i hn0
                    have hn0' : n = 0 := by simpa using hn0
                    subst hn0'
                    simp only [Option.some.injEq, Prod.mk.injEq] at h
                    obtain ⟨rfl, rfl⟩ := h
                    exact ⟨_, w, ρ, append_room_run hu hu2 hi (base := none) (sl := 0) (sc := 0) hlen hf (by omega) (by simp), by simp, .refl R⟩
                  · rename_i hn0
                    have hn0' : n ≠ 0 := by simpa using hn0
                    split at h
                    · rename_i hsm
                      have hsm' : n ≤ 16777216 := by simpa [small] using hsm
                      simp only [Option.some.injEq, Prod.mk.injEq] at h
                      obtain ⟨rfl, rfl⟩ := h
                      have hrun := append_grow_run (P := P) (w := w) (ty := ty) (tys := tys) hu hu2 hi hz hby (base := none) (sl := 0) (sc := 0) (olds := []) hlen (by simp [Builtin.firstCells]) hf' (by omega) (by omega)
                      obtain ⟨L, hp, hv⟩ := grown_post (elem := elem) (sc := 0) (old := []) (olds := []) (need := n) R (by simp) hvals' hzs (by simp [hvlen])
                      simp only [Nat.zero_add] at hrun
                      refine ⟨_, _, _, hrun, ?_, hp⟩
                      rw [← hsz]
                      exact hv
                    · simp at h
                · rename_i b o len cap
                  have hx0 := hx
                  rw [vrel_slice] at hx
                  obtain ⟨x, rfl, hlc, hxo⟩ := hx
                  split at h
                  · rename_i hroom
                    have hroom' : len + n ≤ cap := by simpa using hroom
                    split at h
                    · rename_i hn0
                      have hn0' : n = 0 := by simpa using hn0
                      subst hn0'
                      simp only [Option.some.injEq, Prod.mk.injEq] at h
                      obtain ⟨rfl, rfl⟩ := h
                      have hv0 : vals = [] := List.eq_nil_of_length_eq_zero (by simpa using hvlen2)
                      subst hv0
                      exact ⟨_, w, ρ, append_room_run hu hu2 hi (base := some x) hlen hf hroom' (by simp [storeCells]), hx0, .refl R⟩
                    · rename_i hn0
                      have hn0' : n ≠ 0 := by simpa using hn0
                      split at h
                      · rename_i s2 hs2
                        simp only [Option.some.injEq, Prod.mk.injEq] at h
                        obtain ⟨rfl, rfl⟩ := h
                        obtain ⟨L, hL, rfl⟩ := hxo (by omega)
                        rw [← hsz] at hs2
                        obtain ⟨w', hw1, hw2⟩ := write_run R hs2 hL hvals
                        refine ⟨_, w', ρ, append_room_run hu hu2 hi (base := some ⟨L.c, L.d + o, none⟩) hlen hf hroom' ?_, ?_, hw2⟩
                        · simp only [add_off]
                          rw [Nat.add_assoc]
                          exact hw1
                        · rw [vrel_slice]
                          exact ⟨_, rfl, hroom', fun _ => ⟨L, hL, rfl⟩⟩
                      · simp at h
                  · rename_i hroom
                    have hroom' : ¬ len + n ≤ cap := by simpa using hroom
                    split at h
                    · rename_i hsm
                      have hsm' : len + n ≤ 16777216 := by simpa [small] using hsm
                      split at h
                      · rename_i old hold
                        split at h
                        · rename_i holdone
                          simp only [Option.some.injEq, Prod.mk.injEq] at h
                          obtain ⟨rfl, rfl⟩ := h
                          rw [← hsz] at hold
                          obtain ⟨olds, ho, holds, hol, _⟩ := first_run (size := i.size) (n := len) (y := .slice b o len cap) R.drew hold hx0 rfl (Nat.le_refl _)
                          have hol' := hol (by simp)
                          have hrun := append_grow_run (P := P) (w := w) (ty := ty) (tys := tys) hu hu2 hi hz hby (base := some x) (sl := len) (sc := cap) hlen ho hf' hroom' hsm'
                          obtain ⟨L', hp, hv⟩ := grown_post (elem := elem) (sc := cap) (need := len + n) R holds hvals' hzs (by rw [hol', hvlen, Nat.add_mul])
                          refine ⟨_, _, _, hrun, ?_, hp⟩
                          rw [← hsz]
                          exact hv
                        · simp at h
                      · simp at h
                    · simp at h
                · rename_i b o len esz
                  split at h
                  · simp at h
                  · rename_i hesz
                    have hesz' : esz = size + 1 := by simpa using hesz
                    have hx0 := hx
                    rw [vrel_osl] at hx
                    obtain ⟨L, x, k, hL, rfl, hlk, hxk, hxo⟩ := hx
                    split at h
                    · rename_i hn0
                      have hn0' : n = 0 := by simpa using hn0
                      subst hn0'
                      simp only [Option.some.injEq, Prod.mk.injEq] at h
                      obtain ⟨rfl, rfl⟩ := h
                      have hv0 : vals = [] := List.eq_nil_of_length_eq_zero (by simpa using hvlen2)
                      subst hv0
                      exact ⟨_, w, ρ, append_room_run hu hu2 hi (base := some ⟨L.c, x, none⟩) hlen hf (by omega) (by simp [storeCells]), hx0, .refl R⟩
                    · rename_i hn0
                      have hn0' : n ≠ 0 := by simpa using hn0
                      split at h
                      · rename_i hsm
                        simp only [Bool.and_eq_true] at hsm
                        have hsm' : len + n ≤ 16777216 := by simpa [small] using hsm.1
                        obtain ⟨cs, hbcs⟩ := rwAt_some hsm.2
                        split at h
                        · rename_i old hold
                          split at h
                          · rename_i holdone
                            simp only [Option.some.injEq, Prod.mk.injEq] at h
                            obtain ⟨rfl, rfl⟩ := h
                            rw [← hsz] at hold hesz'
                            have hkill := Post.kill R hbcs rfl hL
                            by_cases hroom : len + n ≤ k
                            · -- in place
                              obtain ⟨arr, e, fz, h1, h2, h3, vs, h4, h5⟩ := Rel.row (R := R) hbcs hL
                              have hfz : fz = (0, 0) := h3 rfl
                              subst hfz
                              have hfit : x + len * i.size + vals.length ≤ arr.size := by
                                rw [h2, hvlen2, Nat.add_assoc, ← Nat.add_mul]
                                refine Nat.le_trans (Nat.add_le_add_left (Nat.mul_le_mul_right _ hroom) x) ?_
                                rw [← hesz']
                                exact hxk
                              have hst := run_storeCells_at P L.c (x + len * i.size) e vals 0 arr w h1 (by omega) (ones_rel hone' hvals)
                              simp only [Nat.add_zero] at hst
                              -- the old elements, where they stand
                              have holds : ∃ olds : List Value, VRels ρ old olds ∧ olds.length = len * i.size ∧ ∀ j v, olds[j]? = some v → arr[x + j]? = some v := by
                                by_cases hl0 : len * i.size = 0
                                · refine ⟨[], ?_, by simp [hl0], by simp⟩
                                  unfold readA at hold
                                  rw [hbcs, hl0] at hold
                                  have hold' : some [] = some old := hold
                                  simp only [Option.some.injEq] at hold'
                                  subst hold'
                                  simp
                                · obtain ⟨olds, k1, k2, k3, k4⟩ := read_run R hold hL
                                  refine ⟨olds, k2, k3, fun j v hj => ?_⟩
                                  have := k4 j v hj
                                  rw [cell_of h1] at this
                                  rw [hxo (by intro e; exact hl0 (by simp [e]))]
                                  exact this
                              obtain ⟨olds, ho1, ho2, ho3⟩ := holds
                              refine ⟨_, _, upd ρ s.nx ⟨L.c, x, L.sz⟩, append_room_run hu hu2 hi (base := some ⟨L.c, x, none⟩) hlen hf hroom (by simp only [add_off]; exact hst), ?_, hkill.trans ?_⟩
                              · rw [vrel_osl]
                                refine ⟨_, x, k, upd_same _ _ _, rfl, hroom, ?_, fun _ => rfl⟩
                                rw [← hsz, ← hesz']
                                exact hxk
                              · have hown := R.own b _ L hbcs rfl hL
                                have hR := hkill.rel.pushAt (o := .cells false (old ++ new)) (L := ⟨L.c, x, L.sz⟩) (w' := w.setRow L.c (arr.toList.take (x + len * i.size) ++ vals ++ arr.toList.drop (x + len * i.size + vals.length)).toArray) rfl hown (by simpa using R.lt b L hL) ?_ ?_ ?_ ?_
                                · refine ⟨hR, fun b' hb' => upd_other _ _ _ (by simp only [AS.nx_set] at hb'; omega), fun b' hb' _ => ?_, Shape.push _ _, by simp⟩
                                  rw [AS.get_push]
                                  have hne : (s.set b .dead).nx ≠ b' := by omega
                                  rw [if_neg hne]
                                · intro b' o' L' hb' hr hL' he
                                  rw [AS.get_set] at hb'
                                  split at hb'
                                  · rw [hbcs] at hb'
                                    simp only [Option.map_some, Option.some.injEq] at hb'
                                    subst hb'
                                    simp [AObj.rw] at hr
                                  · rename_i hne
                                    exact hne (R.inj b' b o' _ L' L hb' hbcs hr rfl hL' hL he)
                                · exact ⟨rfl, rfl, rfl, by simp, fun k hk => setRow_other _ _ _ _ (fun e => hown (e ▸ hk))⟩
                                · intro j hj _
                                  exact setRow_other _ _ _ _ hj
                                · refine ⟨_, setRow_heap w L.c arr _ e (0, 0) h1, _, e, (0, 0), rfl, ?_, fun _ => rfl, olds ++ vals, ho1.append hvals, fun j v hj => ?_⟩
                                  · simp
                                    omega
                                  · simp only [List.getElem?_toArray]
                                    rw [List.append_assoc]
                                    by_cases hj1 : j < olds.length
                                    · rw [List.getElem?_append_left hj1] at hj
                                      rw [List.getElem?_append_left (by simp; omega), List.getElem?_take, if_pos (by omega)]
                                      simpa using ho3 j v hj
                                    · rw [List.getElem?_append_right (by omega)] at hj
                                      rw [List.getElem?_append_right (by simp; omega)]
                                      have : x + j - (arr.toList.take (x + len * i.size)).length = j - olds.length := by simp; omega
                                      rw [this, List.getElem?_append_left ((List.getElem?_eq_some_iff.1 hj).1)]
                                      exact hj
                            · obtain ⟨olds, ho, holds, hol, _⟩ := first_run (size := i.size) (n := len) (y := .osl b o len esz) R.drew hold hx0 rfl (Nat.le_refl _)
                              have hol' := hol (by simp)
                              have hrun := append_grow_run (P := P) (w := w) (ty := ty) (tys := tys) hu hu2 hi hz hby (base := some ⟨L.c, x, none⟩) (sl := len) (sc := k) hlen ho hf' hroom hsm'
                              obtain ⟨L', hp, hv⟩ := grown_post (elem := elem) (sc := k) (need := len + n) hkill.rel holds hvals' hzs (by rw [hol', hvlen, Nat.add_mul])
                              refine ⟨_, _, _, hrun, ?_, hkill.trans hp⟩
                              rw [← hsz]
                              exact hv
                          · simp at h
                        · simp at h
                      · simp at h
                · simp at h
            · simp at h
        · simp at h
      · simp at h
    · simp at h
  · simp at h

theorem copy_run (R : Rel P B ρ s w) {t ty : TypeId} {tys : List TypeId} {x y v : AV} {s' : AS} {vx vy : Value} (h : copyA P s t x y = some (v, s')) (hx : VRel ρ x vx) (hy : VRel ρ y vy) :
    ∃ u w', (Builtin.copy_ (t :: tys).toArray ty #[vx, vy]).run P w = .ok u w' ∧ VRel ρ v u ∧ Post P B ρ s w ρ s' w' := by
  unfold copyA at h
  split at h
  · rename_i elem hu
    split at h
    · rename_i size dl sl hs hdl hsl
      split at h
      · rename_i new hnew
        have hlen := lenOf_run (P := P) (w := w) hsl hy
        obtain ⟨vals, hf, hvals, hvl, hvn⟩ := first_run R hnew hy hsl (Nat.min_le_left _ _)
        have emp : Nat.min sl dl = 0 → vals = [] := by
          intro h0
          apply List.eq_nil_of_length_eq_zero
          by_cases hyn : y = .nilSlice
          · have := hvals.length
            rw [hvn hyn] at this
            simpa using this
          · rw [hvl hyn, h0]; simp
        split at h
        · simp only [vrel_nilSlice] at hx
          simp only [Option.some.injEq, Prod.mk.injEq] at h
          obtain ⟨rfl, rfl⟩ := h
          simp only [sliceLen, Option.some.injEq] at hdl
          subst hdl
          subst hx
          refine ⟨.int .i64 (Nat.min sl 0 : Nat), w, ?_, by simp, .refl R⟩
          have e0 : Nat.min sl 0 = 0 := by simp
          rw [e0] at hf
          simp [Builtin.copy_, run_underlying hu, hlen, sizeA_run hs, hf, goInt]
        · rename_i b o n' cap
          rw [vrel_slice] at hx
          obtain ⟨q, rfl, hlc, hqo⟩ := hx
          simp only [sliceLen, Option.some.injEq] at hdl
          subst hdl
          split at h
          · rename_i hc0
            have hc : cap = 0 := Nat.eq_of_beq_eq_true hc0
            simp only [Option.some.injEq, Prod.mk.injEq] at h
            obtain ⟨rfl, rfl⟩ := h
            have h0 : Nat.min sl n' = 0 := by
              have : Nat.min sl n' ≤ n' := Nat.min_le_right sl n'
              omega
            have := emp h0
            subst this
            refine ⟨.int .i64 (Nat.min sl n' : Nat), w, ?_, by simp, .refl R⟩
            simp [Builtin.copy_, run_underlying hu, hlen, sizeA_run hs, hf, goInt, storeCells]
          · rename_i hc0
            have hc : cap ≠ 0 := fun e => hc0 (by rw [e]; rfl)
            obtain ⟨L, hL, rfl⟩ := hqo hc
            split at h
            · rename_i s2 hs2
              simp only [Option.some.injEq, Prod.mk.injEq] at h
              obtain ⟨rfl, rfl⟩ := h
              obtain ⟨w', hw1, hw2⟩ := write_run R hs2 hL hvals
              refine ⟨.int .i64 (Nat.min sl n' : Nat), w', ?_, by simp, hw2⟩
              simp [Builtin.copy_, run_underlying hu, hlen, sizeA_run hs, hf, goInt, hw1]
            · simp at h
        · rename_i b o n' esz
          rw [vrel_osl] at hx
          obtain ⟨L, q, k, hL, rfl, hlc, _, hqo⟩ := hx
          simp only [sliceLen, Option.some.injEq] at hdl
          subst hdl
          split at h
          · rename_i s2 hs2
            simp only [Option.some.injEq, Prod.mk.injEq] at h
            obtain ⟨rfl, rfl⟩ := h
            obtain ⟨w', hw1, hw2⟩ := write_run R hs2 hL hvals
            refine ⟨.int .i64 (Nat.min sl n' : Nat), w', ?_, by simp, hw2⟩
            have hst : (storeCells ⟨L.c, q, none⟩ vals).run P w = .ok () w' := by
              by_cases hc : n' = 0
              · have h0 : Nat.min sl n' = 0 := by
                  have : Nat.min sl n' ≤ n' := Nat.min_le_right sl n'
                  omega
                have := emp h0
                subst this
                simpa [storeCells] using hw1
              · rw [hqo hc]; exact hw1
            simp [Builtin.copy_, run_underlying hu, hlen, sizeA_run hs, hf, goInt, hst]
          · simp at h
        · simp at h
      · simp at h
    · simp at h
  · simp at h
end
end Go.Mini

namespace Go.Mini
open Go Go.RowKit
section
variable {P : Program} {B : Base} {ρ : Ren} {s : AS} {w : World} {ts : List AV} {a : Act}

theorem callFunc_run {f : FuncId} (h : callableA P f = true) (args : Array Value) : (callFunc f args).run P w = .ok (.enter f args) w := by
  unfold callableA at h
  split at h
  · rename_i fn hf
    simp only [Bool.and_eq_true, bne_iff_ne, ne_eq] at h
    obtain ⟨h1, h2⟩ := h
    obtain ⟨c, hc⟩ := Option.isSome_iff_exists.1 h1
    simp [callFunc, hf, h2, hc]
  · simp at h

theorem method_run {t : TypeId} {name : String} {f : FuncId} (h : methodA P t name = some f) (v : Value) (n : Nat) : (method (n + 1) t v name).run P w = .ok (f, v) w := by
  unfold methodA at h
  split at h
  · rename_i i hi
    split at h
    · rename_i m hm
      split at h
      · rename_i hp
        have hp' : m.path.toList = [] := by simpa using hp
        split at h <;> simp only [Option.some.injEq, reduceCtorEq] at h
        · rename_i g e hf hu
          subst h
          simp [method, typeInfo, hi, hm, hp', follow, hf, receiverAt, run_underlying hu, Place.get]
        · rename_i g d hne hf hu
          subst h
          simp only [method, typeInfo, Sem.run_bind, run_program, Result.andThen_ok, hi, Sem.run_pure, hm, hp', follow, hf, receiverAt, run_underlying hu]
          cases d <;> first | exact absurd rfl (fun e => hne _ _ rfl e) | simp [Place.get]
      · simp at h
    · simp at h
  · simp at h

theorem callMethod_run {t : TypeId} {name : String} {f : FuncId} (h : methodA P t name = some f) (hc : callableA P f = true) (v : Value) (args : Array Value) :
    (callMethod (.iface t v) name args).run P w = .ok (.enter f (#[v] ++ args)) w := by
  have hd : ∃ n, P.types.size + Made.depth = n + 1 := ⟨P.types.size + Made.depth - 1, by unfold Made.depth; omega⟩
  obtain ⟨n, hn⟩ := hd
  simp only [callMethod, Sem.run_bind, run_program, Result.andThen_ok, hn, method_run h v n]
  exact callFunc_run hc _

/-- What an effect comes to. -/
def OutRel (P : Program) (B : Base) (ρ : Ren) (s : AS) (w : World) (r : Result Next) : Out → Prop
  | .val v s' => ∃ nxt u w' ρ', r = .ok nxt w' ∧ (nxt = .value u ∨ (nxt = .skip ∧ u = undef)) ∧ VRel ρ' v u ∧ Post P B ρ s w ρ' s' w'
  | .enter f args => ∃ cargs : List Value, r = .ok (.enter f cargs.toArray) w ∧ VRels ρ args cargs

theorem enterA_out {f : FuncId} {args : List AV} {out : Out} (h : enterA P f args = some out) : out = .enter f args ∧ callableA P f = true := by
  unfold enterA at h
  split at h
  · rename_i hc
    simp only [Option.some.injEq] at h
    exact ⟨h.symm, hc⟩
  · simp at h

theorem eff_run (R : Rel P B ρ s w) (ht : TR ρ ts a) (o : Oper) {out : Out} (h : effA P ts s o.op = some out) : OutRel P B ρ s w ((execOp a.eval o).run P w) out := by
  cases hop : o.op with
  | store t x y =>
    rw [hop] at h
    simp only [effA] at h
    split at h
    · rename_i p v hp hv
      split at h
      · rename_i s' hs
        simp only [Option.some.injEq] at h
        subst h
        obtain ⟨w', h1, h2⟩ := store_run R hs (evA_rel R.glob ht hp) (evA_rel R.glob ht hv)
        exact ⟨.skip, undef, w', ρ, by simp [execOp, hop, h1], .inr ⟨rfl, rfl⟩, vrel_undef, h2⟩
      · simp at h
    · simp at h
  | mapUpdate t m k x =>
    rw [hop] at h
    simp only [effA] at h
    split at h
    · rename_i p q v hp hq hv
      split at h
      · rename_i s' hs
        simp only [Option.some.injEq] at h
        subst h
        obtain ⟨w', h1, h2⟩ := update_run R hs (evA_rel R.glob ht hp) (evA_rel R.glob ht hq) (evA_rel R.glob ht hv)
        exact ⟨.skip, undef, w', ρ, by simp [execOp, hop, h1], .inr ⟨rfl, rfl⟩, vrel_undef, h2⟩
      · simp at h
    · simp at h
  | mapEntry t m k =>
    rw [hop] at h
    simp only [effA] at h
    split at h
    · rename_i p q hp hq
      split at h
      · rename_i v n s' hs
        simp only [Option.some.injEq] at h
        subst h
        obtain ⟨u, w', h1, h2, h3⟩ := entry_run R hs (evA_rel R.glob ht hp) (evA_rel R.glob ht hq)
        exact ⟨.value (.tuple #[u, .int .i64 (Int.ofNat n)]), _, w', ρ, by simp [execOp, hop, h1], .inl rfl, by rw [vrel_tuple]; exact .inr ⟨[u, .int .i64 (Int.ofNat n)], rfl, by simp [h2]⟩, h3⟩
      · simp at h
    · simp at h
  | entryStore t m k x =>
    rw [hop] at h
    simp only [effA] at h
    split at h
    · rename_i p q v hp hq hv
      split at h
      · rename_i s' hs
        simp only [Option.some.injEq] at h
        subst h
        obtain ⟨w', h1, h2⟩ := entryStore_run (t := t) R hs (evA_rel R.glob ht hp) (evA_rel R.glob ht hq) (evA_rel R.glob ht hv)
        exact ⟨.skip, undef, w', ρ, by simp [execOp, hop, h1], .inr ⟨rfl, rfl⟩, vrel_undef, h2⟩
      · simp at h
    · simp at h
  | insert t m k x =>
    rw [hop] at h
    simp only [effA] at h
    split at h
    · rename_i p q v hp hq hv
      split at h
      · rename_i s' hs
        simp only [Option.some.injEq] at h
        subst h
        obtain ⟨w', h1, h2⟩ := update_run R hs (evA_rel R.glob ht hp) (evA_rel R.glob ht hq) (evA_rel R.glob ht hv)
        exact ⟨.skip, undef, w', ρ, by simp [execOp, hop, h1], .inr ⟨rfl, rfl⟩, vrel_undef, h2⟩
      · simp at h
    · simp at h
  | call c =>
    obtain ⟨callee, args, argTypes⟩ := c
    rw [hop] at h
    simp only [effA] at h
    split at h
    · rename_i vs hvs
      have hargs := evL_rel R.glob ht hvs
      split at h
      · rename_i f
        split at h
        · rename_i g first captured hf
          obtain ⟨rfl, hc⟩ := enterA_out h
          have hff := evA_rel R.glob ht hf
          rw [vrel_func] at hff
          obtain ⟨us, ws, e, h1, h2⟩ := hff
          refine ⟨us ++ args.toList.map a.eval ++ ws, ?_, (h1.append hargs).append h2⟩
          simp only [execOp, hop, Sem.run_bind, resolve, e, Deferred.ofValue, Sem.run_pure, Result.andThen_ok, invoke, callFunc_run hc]
          congr 2
          rw [args_eq]
          simp
        · simp at h
      · rename_i r name
        split at h
        · rename_i t v hr
          split at h
          · rename_i g hg
            obtain ⟨rfl, hc⟩ := enterA_out h
            have hrr := evA_rel R.glob ht hr
            rw [vrel_iface] at hrr
            obtain ⟨y, e, hy⟩ := hrr
            refine ⟨y :: args.toList.map a.eval, ?_, by rw [vrels_cons]; exact ⟨_, _, rfl, hy, hargs⟩⟩
            have hcm := callMethod_run (w := w) hg hc y (args.toList.map a.eval).toArray
            have e0 : #[Value.iface t y] ++ args.map a.eval = (Value.iface t y :: args.toList.map a.eval).toArray := by
              apply Array.ext'
              simp
            have e2 : (Value.iface t y :: args.toList.map a.eval).toArray.extract 1 (Value.iface t y :: args.toList.map a.eval).toArray.size = (args.toList.map a.eval).toArray := by
              apply Array.ext'
              simp
              exact List.take_of_length_le (by simp)
            have e3 : #[y] ++ (args.toList.map a.eval).toArray = (y :: args.toList.map a.eval).toArray := by simp
            rw [e3] at hcm
            rw [← hcm]
            simp only [execOp, hop, Sem.run_bind, resolve, e, Sem.run_pure, Result.andThen_ok, invoke, e0]
            rw [e2]
            rfl
          · simp at h
        · simp at h
      · split at h
        · rename_i x y t t2 tys htys
          split at h
          · rename_i v s' hs
            simp only [Option.some.injEq] at h
            subst h
            rw [vrels_cons] at hargs
            obtain ⟨vx, r1, e1, hx, hr1⟩ := hargs
            rw [vrels_cons] at hr1
            obtain ⟨vy, r2, e2, hy, hr2⟩ := hr1
            rw [vrels_nil] at hr2
            obtain ⟨u, w', ρ', h1, h2, h3⟩ := append_run (ty := o.type) (tys := tys) R hs hx hy
            have hty : argTypes = (t :: t2 :: tys).toArray := by apply Array.ext'; simpa using htys
            have hav : args.map a.eval = #[vx, vy] := by rw [args_eq, e1, e2, hr2]
            exact ⟨.value u, u, w', ρ', by simp [execOp, hop, resolve, invoke, builtin, hav, hty] at h1 ⊢; simp [h1], .inl rfl, h2, h3⟩
          · simp at h
        · simp at h
      · split at h
        · rename_i x y t tys htys
          split at h
          · rename_i v s' hs
            simp only [Option.some.injEq] at h
            subst h
            rw [vrels_cons] at hargs
            obtain ⟨vx, r1, e1, hx, hr1⟩ := hargs
            rw [vrels_cons] at hr1
            obtain ⟨vy, r2, e2, hy, hr2⟩ := hr1
            rw [vrels_nil] at hr2
            obtain ⟨u, w', h1, h2, h3⟩ := copy_run (ty := o.type) (tys := tys) R hs hx hy
            have hty : argTypes = (t :: tys).toArray := by apply Array.ext'; simpa using htys
            have hav : args.map a.eval = #[vx, vy] := by rw [args_eq, e1, e2, hr2]
            exact ⟨.value u, u, w', ρ, by simp [execOp, hop, resolve, invoke, builtin, hav, hty] at h1 ⊢; simp [h1], .inl rfl, h2, h3⟩
          · simp at h
        · simp at h
      · split at h
        · rename_i x y t tys htys
          split at h
          · rename_i s' hs
            simp only [Option.some.injEq] at h
            subst h
            rw [vrels_cons] at hargs
            obtain ⟨vx, r1, e1, hx, hr1⟩ := hargs
            rw [vrels_cons] at hr1
            obtain ⟨vy, r2, e2, hy, hr2⟩ := hr1
            rw [vrels_nil] at hr2
            obtain ⟨w', h1, h3⟩ := delete_run (ty := o.type) (tys := tys) R hs hx hy
            have hty : argTypes = (t :: tys).toArray := by apply Array.ext'; simpa using htys
            have hav : args.map a.eval = #[vx, vy] := by rw [args_eq, e1, e2, hr2]
            exact ⟨.value undef, undef, w', ρ, by simp [execOp, hop, resolve, invoke, builtin, hav, hty] at h1 ⊢; simp [h1], .inl rfl, vrel_undef, h3⟩
          · simp at h
        · simp at h
      · simp at h
    · simp at h
  | _ => rw [hop] at h; simp [effA] at h

theorem op_run (R : Rel P B ρ s w) (ht : TR ρ ts a) (o : Oper) {out : Out} (h : opA P ts s o.op = some out) : OutRel P B ρ s w ((execOp a.eval o).run P w) out := by
  have hv : ∀ {v}, valA P ts s o.op = some v → OutRel P B ρ s w ((execOp a.eval o).run P w) (.val v s) := by
    intro v hv
    obtain ⟨u, h1, h2⟩ := val_run R ht o hv
    exact ⟨.value u, u, w, ρ, h1, .inl rfl, h2, .refl R⟩
  unfold opA at h
  split at h
  · split at h
    · rename_i v hvv
      simp only [Option.some.injEq] at h
      subst h
      exact hv hvv
    · simp at h
  · split at h
    · rename_i v hvv
      simp only [Option.some.injEq] at h
      subst h
      exact hv hvv
    · simp at h
  · split at h
    · rename_i v ob hvv
      simp only [Option.some.injEq] at h
      subst h
      obtain ⟨u, c, sz, h1, h2, h3, h4⟩ := sum_rel (w := w) ht R.glob o hvv
      exact ⟨.value u, u, _, _, h1, .inl rfl, h4, Post.push R h2 h3⟩
    · simp at h
  · exact eff_run R ht o h
  · simp at h
end
end Go.Mini

