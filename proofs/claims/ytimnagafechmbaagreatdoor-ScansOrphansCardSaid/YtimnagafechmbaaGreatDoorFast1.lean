/- An evaluator of closed runs, made for the kernel, and what it says of operations. Conditions: those that each theorem names, and no others. -/
import Derived.Test.YtimnagafechmbaaGreatDoorMini3
import Derived.IntWalk
namespace Go.Mini.Fast
open Go

structure N16 (α : Type) where
  a : α
  b : α
  c : α
  d : α
  e : α
  f : α
  g : α
  h : α
  i : α
  j : α
  k : α
  l : α
  m : α
  n : α
  o : α
  p : α

/-- A place in a tree: how it is read, how it is set. -/
inductive Ac (α β : Type) where
  | mk (get : α → β) (set : α → β → α)

def Ac.get {α β : Type} : Ac α β → α → β
  | .mk g _ => g
def Ac.set {α β : Type} : Ac α β → α → β → α
  | .mk _ s => s

section
variable {α : Type}
noncomputable def ta (n : N16 α) (v : α) : N16 α := N16.rec (motive := fun _ => N16 α) (fun _ b c d e f g h i j k l m n o p => ⟨v, b, c, d, e, f, g, h, i, j, k, l, m, n, o, p⟩) n
noncomputable def tb (n : N16 α) (v : α) : N16 α := N16.rec (motive := fun _ => N16 α) (fun a _ c d e f g h i j k l m n o p => ⟨a, v, c, d, e, f, g, h, i, j, k, l, m, n, o, p⟩) n
noncomputable def tc (n : N16 α) (v : α) : N16 α := N16.rec (motive := fun _ => N16 α) (fun a b _ d e f g h i j k l m n o p => ⟨a, b, v, d, e, f, g, h, i, j, k, l, m, n, o, p⟩) n
noncomputable def td (n : N16 α) (v : α) : N16 α := N16.rec (motive := fun _ => N16 α) (fun a b c _ e f g h i j k l m n o p => ⟨a, b, c, v, e, f, g, h, i, j, k, l, m, n, o, p⟩) n
noncomputable def te (n : N16 α) (v : α) : N16 α := N16.rec (motive := fun _ => N16 α) (fun a b c d _ f g h i j k l m n o p => ⟨a, b, c, d, v, f, g, h, i, j, k, l, m, n, o, p⟩) n
noncomputable def tf (n : N16 α) (v : α) : N16 α := N16.rec (motive := fun _ => N16 α) (fun a b c d e _ g h i j k l m n o p => ⟨a, b, c, d, e, v, g, h, i, j, k, l, m, n, o, p⟩) n
noncomputable def tg (n : N16 α) (v : α) : N16 α := N16.rec (motive := fun _ => N16 α) (fun a b c d e f _ h i j k l m n o p => ⟨a, b, c, d, e, f, v, h, i, j, k, l, m, n, o, p⟩) n
noncomputable def th (n : N16 α) (v : α) : N16 α := N16.rec (motive := fun _ => N16 α) (fun a b c d e f g _ i j k l m n o p => ⟨a, b, c, d, e, f, g, v, i, j, k, l, m, n, o, p⟩) n
noncomputable def ti (n : N16 α) (v : α) : N16 α := N16.rec (motive := fun _ => N16 α) (fun a b c d e f g h _ j k l m n o p => ⟨a, b, c, d, e, f, g, h, v, j, k, l, m, n, o, p⟩) n
noncomputable def tj (n : N16 α) (v : α) : N16 α := N16.rec (motive := fun _ => N16 α) (fun a b c d e f g h i _ k l m n o p => ⟨a, b, c, d, e, f, g, h, i, v, k, l, m, n, o, p⟩) n
noncomputable def tk (n : N16 α) (v : α) : N16 α := N16.rec (motive := fun _ => N16 α) (fun a b c d e f g h i j _ l m n o p => ⟨a, b, c, d, e, f, g, h, i, j, v, l, m, n, o, p⟩) n
noncomputable def tl (n : N16 α) (v : α) : N16 α := N16.rec (motive := fun _ => N16 α) (fun a b c d e f g h i j k _ m n o p => ⟨a, b, c, d, e, f, g, h, i, j, k, v, m, n, o, p⟩) n
noncomputable def tm (n : N16 α) (v : α) : N16 α := N16.rec (motive := fun _ => N16 α) (fun a b c d e f g h i j k l _ n o p => ⟨a, b, c, d, e, f, g, h, i, j, k, l, v, n, o, p⟩) n
noncomputable def tn (n : N16 α) (v : α) : N16 α := N16.rec (motive := fun _ => N16 α) (fun a b c d e f g h i j k l m _ o p => ⟨a, b, c, d, e, f, g, h, i, j, k, l, m, v, o, p⟩) n
noncomputable def to (n : N16 α) (v : α) : N16 α := N16.rec (motive := fun _ => N16 α) (fun a b c d e f g h i j k l m n _ p => ⟨a, b, c, d, e, f, g, h, i, j, k, l, m, n, v, p⟩) n
noncomputable def tp (n : N16 α) (v : α) : N16 α := N16.rec (motive := fun _ => N16 α) (fun a b c d e f g h i j k l m n o _ => ⟨a, b, c, d, e, f, g, h, i, j, k, l, m, n, o, v⟩) n
noncomputable def ac16 (i : Nat) : Ac (N16 α) α :=
  match i with
  | 0 => .mk N16.a ta
  | 1 => .mk N16.b tb
  | 2 => .mk N16.c tc
  | 3 => .mk N16.d td
  | 4 => .mk N16.e te
  | 5 => .mk N16.f tf
  | 6 => .mk N16.g tg
  | 7 => .mk N16.h th
  | 8 => .mk N16.i ti
  | 9 => .mk N16.j tj
  | 10 => .mk N16.k tk
  | 11 => .mk N16.l tl
  | 12 => .mk N16.m tm
  | 13 => .mk N16.n tn
  | 14 => .mk N16.o to
  | _ => .mk N16.p tp
def all16 (v : α) : N16 α := ⟨v, v, v, v, v, v, v, v, v, v, v, v, v, v, v, v⟩
end

noncomputable def Ac.comp {α β γ : Type} (x : Ac α β) (y : Ac β γ) : Ac α γ :=
  match x, y with
  | .mk g s, .mk g' s' => .mk (fun a => g' (g a)) (fun a v => s a (s' (g a) v))

abbrev Env := N16 (N16 AV)
noncomputable def acE (t : Nat) : Ac Env AV := (ac16 (t / 16)).comp (ac16 (t % 16))
def env0 : Env := all16 (all16 undefA)
abbrev H1 := N16 (Option AObj)
abbrev H2 := N16 H1
abbrev H3 := N16 H2
abbrev H := N16 H3
/-- By a number that is a literal then. -/
noncomputable def lit {α : Type} (d : α) (x : Nat) (f : Nat → α) : α := Nat.rec (motive := fun _ => α) d (fun x0 _ => f x0) (Nat.succ x)
noncomputable def acD {α : Type} (i : Nat) : Ac (N16 α) α := lit (ac16 0) (Nat.mod i 16) ac16
noncomputable def ac3 (b : Nat) : Ac H H2 := (lit (ac16 0) (Nat.div b 16) ac16).comp (acD b)
noncomputable def ac2 (b : Nat) : Ac H H1 := (lit (ac3 0) (Nat.div b 16) ac3).comp (acD b)
noncomputable def acH (b : Nat) : Ac H (Option AObj) := (lit (ac2 0) (Nat.div b 16) ac2).comp (acD b)
def heap0 : H := all16 (all16 (all16 (all16 none)))

/-! ### reading values -/
noncomputable def onPtr (v : AV) (f : Nat → Nat → Bool) : Bool :=
  AV.rec (motive_1 := fun _ => Bool) (motive_2 := fun _ => Unit) (fun _ => false) (fun _ _ => false) (fun _ => false) false f false (fun _ _ _ _ => false) (fun _ _ _ _ => false) false (fun _ => false) (fun _ _ _ _ _ => false) false (fun _ _ _ => false) false (fun _ _ => false) (fun _ _ => false) () (fun _ _ _ _ => ()) v
noncomputable def onInt (v : AV) (f : IntKind → Int → Bool) : Bool :=
  AV.rec (motive_1 := fun _ => Bool) (motive_2 := fun _ => Unit) (fun _ => false) f (fun _ => false) false (fun _ _ => false) false (fun _ _ _ _ => false) (fun _ _ _ _ => false) false (fun _ => false) (fun _ _ _ _ _ => false) false (fun _ _ _ => false) false (fun _ _ => false) (fun _ _ => false) () (fun _ _ _ _ => ()) v
noncomputable def onBool (v : AV) (x y : Bool) : Bool :=
  AV.rec (motive_1 := fun _ => Bool) (motive_2 := fun _ => Unit) (fun b => Bool.rec (motive := fun _ => Bool) y x b) (fun _ _ => false) (fun _ => false) false (fun _ _ => false) false (fun _ _ _ _ => false) (fun _ _ _ _ => false) false (fun _ => false) (fun _ _ _ _ _ => false) false (fun _ _ _ => false) false (fun _ _ => false) (fun _ _ => false) () (fun _ _ _ _ => ()) v
noncomputable def onAgg (v : AV) (f : List AV → Bool) : Bool :=
  AV.rec (motive_1 := fun _ => Bool) (motive_2 := fun _ => Unit) (fun _ => false) (fun _ _ => false) (fun _ => false) false (fun _ _ => false) false (fun _ _ _ _ => false) (fun _ _ _ _ => false) false (fun _ => false) (fun _ _ _ _ _ => false) false (fun _ _ _ => false) false (fun x0 _ => f x0) (fun _ _ => false) () (fun _ _ _ _ => ()) v
noncomputable def onTup (v : AV) (f : List AV → Bool) : Bool :=
  AV.rec (motive_1 := fun _ => Bool) (motive_2 := fun _ => Unit) (fun _ => false) (fun _ _ => false) (fun _ => false) false (fun _ _ => false) false (fun _ _ _ _ => false) (fun _ _ _ _ => false) false (fun _ => false) (fun _ _ _ _ _ => false) false (fun _ _ _ => false) false (fun _ _ => false) (fun x0 _ => f x0) () (fun _ _ _ _ => ()) v
noncomputable def onMap (v : AV) (f : Nat → Bool) (nil : Bool) : Bool :=
  AV.rec (motive_1 := fun _ => Bool) (motive_2 := fun _ => Unit) (fun _ => false) (fun _ _ => false) (fun _ => false) false (fun _ _ => false) false (fun _ _ _ _ => false) (fun _ _ _ _ => false) nil f (fun _ _ _ _ _ => false) false (fun _ _ _ => false) false (fun _ _ => false) (fun _ _ => false) () (fun _ _ _ _ => ()) v
noncomputable def onIface (v : AV) (f : TypeId → AV → Bool) (nil : Bool) : Bool :=
  AV.rec (motive_1 := fun _ => Bool) (motive_2 := fun _ => Unit) (fun _ => false) (fun _ _ => false) (fun _ => false) false (fun _ _ => false) false (fun _ _ _ _ => false) (fun _ _ _ _ => false) false (fun _ => false) (fun _ _ _ _ _ => false) false (fun x0 x1 _ => f x0 x1) nil (fun _ _ => false) (fun _ _ => false) () (fun _ _ _ _ => ()) v
noncomputable def onFunc (v : AV) (f : Fn → List AV → List AV → Bool) : Bool :=
  AV.rec (motive_1 := fun _ => Bool) (motive_2 := fun _ => Unit) (fun _ => false) (fun _ _ => false) (fun _ => false) false (fun _ _ => false) false (fun _ _ _ _ => false) (fun _ _ _ _ => false) false (fun _ => false) (fun x0 x1 x2 _ _ => f x0 x1 x2) false (fun _ _ _ => false) false (fun _ _ => false) (fun _ _ => false) () (fun _ _ _ _ => ()) v
/-- A single cell, or an aggregate's cells. -/
noncomputable def onCell (v : AV) (one : Bool) (agg : List AV → Bool) : Bool :=
  AV.rec (motive_1 := fun _ => Bool) (motive_2 := fun _ => Unit) (fun _ => one) (fun _ _ => one) (fun _ => one) one (fun _ _ => one) one (fun _ _ _ _ => one) (fun _ _ _ _ => one) one (fun _ => one) (fun _ _ _ _ _ => one) one (fun _ _ _ => one) one (fun x0 _ => agg x0) (fun _ _ => false) () (fun _ _ _ _ => ()) v
noncomputable def force (x : Nat) (f : Nat → Bool) : Bool := Nat.rec (motive := fun _ => Bool) false (fun x0 _ => f x0) (Nat.succ x)
noncomputable def onSome {α : Type} (x : Option α) (f : α → Bool) : Bool := Option.rec (motive := fun _ => Bool) false f x
noncomputable def ite' (b : Bool) (x y : Bool) : Bool := Bool.rec (motive := fun _ => Bool) y x b
noncomputable def onCells (o : Option AObj) (f : List AV → Bool) : Bool :=
  Option.rec (motive := fun _ => Bool) false (fun x => AObj.rec (motive := fun _ => Bool) (fun _ cs => f cs) (fun _ _ _ => false) false x) o
noncomputable def onRW (o : Option AObj) (f : List AV → Bool) : Bool :=
  Option.rec (motive := fun _ => Bool) false (fun x => AObj.rec (motive := fun _ => Bool) (fun ro cs => Bool.rec (motive := fun _ => Bool) (f cs) false ro) (fun _ _ _ => false) false x) o
noncomputable def onMapO (o : Option AObj) (f : List (AV × AV) → List Nat → Nat → Bool) : Bool :=
  Option.rec (motive := fun _ => Bool) false (fun x => AObj.rec (motive := fun _ => Bool) (fun _ _ => false) f false x) o
/-- The n-th. -/
noncomputable def nthK (f : AV → Bool) (n : Nat) (l : List AV) : Bool :=
  Nat.rec (motive := fun _ => List AV → Bool) (fun l => List.rec (motive := fun _ => Bool) false (fun x _ _ => f x) l) (fun _ ih l => List.rec (motive := fun _ => Bool) false (fun _ t _ => ih t) l) n l
/-- Behind the first n. -/
noncomputable def dropK (f : List AV → Bool) (n : Nat) (l : List AV) : Bool :=
  Nat.rec (motive := fun _ => List AV → Bool) f (fun _ ih l => List.rec (motive := fun _ => Bool) false (fun _ t _ => ih t) l) n l
/-- Just the first n. -/
noncomputable def takeK (n : Nat) (l : List AV) (f : List AV → Bool) : Bool :=
  Nat.rec (motive := fun _ => List AV → (List AV → Bool) → Bool) (fun _ f => f []) (fun _ ih l f => List.rec (motive := fun _ => Bool) false (fun x t _ => ih t (fun r => f (x :: r))) l) n l f
/-- The n-th put. -/
noncomputable def setK (v : AV) (n : Nat) (l : List AV) (f : List AV → Bool) : Bool :=
  Nat.rec (motive := fun _ => List AV → (List AV → Bool) → Bool) (fun l f => List.rec (motive := fun _ => Bool) false (fun _ t _ => f (v :: t)) l) (fun _ ih l f => List.rec (motive := fun _ => Bool) false (fun x t _ => ih t (fun r => f (x :: r))) l) n l f
/-- A row put over another one, at its beginning. -/
noncomputable def overK (vs : List AV) (l : List AV) (f : List AV → Bool) : Bool :=
  List.rec (motive := fun _ => List AV → (List AV → Bool) → Bool) (fun l f => f l) (fun v _ ih l f => List.rec (motive := fun _ => Bool) false (fun _ t _ => ih t (fun r => f (v :: r))) l) vs l f
noncomputable def spliceK (vs : List AV) (n : Nat) (l : List AV) (f : List AV → Bool) : Bool :=
  Nat.rec (motive := fun _ => List AV → (List AV → Bool) → Bool) (fun l f => overK vs l f) (fun _ ih l f => List.rec (motive := fun _ => Bool) false (fun x t _ => ih t (fun r => f (x :: r))) l) n l f
noncomputable def kEq (a b : IntKind) : Bool := IntKind.rec (motive := fun _ => Bool) (IntKind.rec (motive := fun _ => Bool) true false false false false false false false b) (IntKind.rec (motive := fun _ => Bool) false true false false false false false false b) (IntKind.rec (motive := fun _ => Bool) false false true false false false false false b) (IntKind.rec (motive := fun _ => Bool) false false false true false false false false b) (IntKind.rec (motive := fun _ => Bool) false false false false true false false false b) (IntKind.rec (motive := fun _ => Bool) false false false false false true false false b) (IntKind.rec (motive := fun _ => Bool) false false false false false false true false b) (IntKind.rec (motive := fun _ => Bool) false false false false false false false true b) a
/-- One more than the greatest number of a kind. -/
noncomputable def lim (k : IntKind) : Nat := IntKind.rec (motive := fun _ => Nat) 128 32768 2147483648 9223372036854775808 256 65536 4294967296 18446744073709551616 k
noncomputable def onNat (x : Int) (f : Nat → Bool) (g : Bool) : Bool := Int.rec (motive := fun _ => Bool) f (fun _ => g) x

/-! ### numbers -/
/-- A number that is no literal yet: as one. -/
noncomputable def small (k : IntKind) (n : Nat) (f : AV → Bool) (g : Bool) : Bool := ite' (Nat.blt n (lim k)) (force n fun m => f (.int k (.ofNat m))) g
noncomputable def addK (k : IntKind) (x y : Int) (f : AV → Bool) : Bool :=
  let z := onSome (intOpA .add k x y) f
  onNat x (fun m => onNat y (fun n => small k (Nat.add m n) f z) z) z
noncomputable def subK (k : IntKind) (x y : Int) (f : AV → Bool) : Bool :=
  let z := onSome (intOpA .sub k x y) f
  onNat x (fun m => onNat y (fun n => ite' (Nat.ble n m) (small k (Nat.sub m n) f z) z) z) z
noncomputable def cmpK (op : BinOp) (nat : Nat → Nat → Bool) (k : IntKind) (x y : Int) (f : AV → Bool) : Bool :=
  let z := onSome (intOpA op k x y) f
  onNat x (fun m => onNat y (fun n => ite' (nat m n) (f (.bool true)) (f (.bool false))) z) z
noncomputable def andK (k : IntKind) (x y : Int) (f : AV → Bool) : Bool :=
  let z := onSome (intOpA .and k x y) f
  onNat x (fun m => onNat y (fun n => ite' (Nat.blt m (lim k)) (ite' (Nat.blt n (lim k)) (force (Nat.land m n) fun r => f (.int k (.ofNat r))) z) z) z) z
noncomputable def orK (k : IntKind) (x y : Int) (f : AV → Bool) : Bool :=
  let z := onSome (intOpA .or k x y) f
  onNat x (fun m => onNat y (fun n => ite' (Nat.blt m (lim k)) (ite' (Nat.blt n (lim k)) (force (Nat.lor m n) fun r => f (.int k (.ofNat r))) z) z) z) z
noncomputable def mulK (k : IntKind) (x y : Int) (f : AV → Bool) : Bool :=
  let z := onSome (intOpA .mul k x y) f
  onNat x (fun m => onNat y (fun n => small k (Nat.mul m n) f z) z) z
noncomputable def quoK (k : IntKind) (x y : Int) (f : AV → Bool) : Bool :=
  let z := onSome (intOpA .quo k x y) f
  onNat x (fun m => onNat y (fun n => ite' (Nat.blt 0 n) (small k (Nat.div m n) f z) z) z) z
noncomputable def remK (k : IntKind) (x y : Int) (f : AV → Bool) : Bool :=
  let z := onSome (intOpA .rem k x y) f
  onNat x (fun m => onNat y (fun n => ite' (Nat.blt 0 n) (force (Nat.mod m n) fun r => f (.int k (.ofNat r))) z) z) z
noncomputable def shlK (k : IntKind) (x y : Int) (f : AV → Bool) : Bool :=
  let z := onSome (shiftA .shl k x y) f
  onNat x (fun m => onNat y (fun n => ite' (Nat.ble n k.bits) (small k (Nat.mul m (Nat.pow 2 n)) f z) z) z) z
noncomputable def shrK (k : IntKind) (x y : Int) (f : AV → Bool) : Bool :=
  let z := onSome (shiftA .shr k x y) f
  onNat x (fun m => onNat y (fun n => ite' (Nat.ble n k.bits) (force (Nat.div m (Nat.pow 2 n)) fun r => f (.int k (.ofNat r))) z) z) z
noncomputable def binI (op : BinOp) : IntKind → Int → Int → (AV → Bool) → Bool :=
  match op with
  | .add => addK
  | .sub => subK
  | .mul => mulK
  | .quo => quoK
  | .rem => remK
  | .and => andK
  | .or => orK
  | .eql => cmpK .eql Nat.beq
  | .neq => cmpK .neq (fun m n => ite' (Nat.beq m n) false true)
  | .lss => cmpK .lss Nat.blt
  | .leq => cmpK .leq Nat.ble
  | .gtr => cmpK .gtr (fun m n => Nat.blt n m)
  | .geq => cmpK .geq (fun m n => Nat.ble n m)
  | op => fun k x y f => onSome (intOpA op k x y) f
/-- Two numbers of one kind. -/
noncomputable def intsK (g : IntKind → Int → Int → (AV → Bool) → Bool) (x y : AV) (f : AV → Bool) : Bool :=
  onInt x fun k m => onInt y fun k' n => ite' (kEq k k') (g k m n f) false
noncomputable def shiftK (g : IntKind → Int → Int → (AV → Bool) → Bool) (x y : AV) (f : AV → Bool) : Bool :=
  onInt x fun k m => onInt y fun _ n => g k m n f
noncomputable def convK (k : IntKind) (x : AV) (f : AV → Bool) : Bool :=
  onInt x fun _ n => let z := f (.int k (k.wrap n)); onNat n (fun m => small k m f z) z
end Go.Mini.Fast
namespace Go.Mini.Fast
open Go

abbrev KE := Env → H → Nat → Bool
abbrev KV := AV → H → Nat → Bool
abbrev RecT := FuncId → List AV → H → Nat → KV → Bool
abbrev XE := RecT → Env → H → Nat → KE → Bool
abbrev Cx := RecT → Nat → Env → H → Nat → (AExit → KE) → Bool

/-- An operation, turned into a function. -/
inductive Xo where
  | mov (g : Env → AV)
  | pur (f : Env → (AV → Bool) → Bool)
  | rd (f : Env → H → Nat → (AV → Bool) → Bool)
  | alc (f : Env → Nat → (AV → AObj → Bool) → Bool)
  | eff (f : RecT → Env → H → Nat → KV → Bool)
  | bad

def Hmax : Nat := 65536
noncomputable def acB (b : Nat) : Ac H (Option AObj) := Bool.rec (motive := fun _ => Ac H (Option AObj)) (.mk (fun _ => none) (fun h _ => h)) (acH b) (Nat.blt b Hmax)
/-- A block. -/
noncomputable def onB (b : Nat) (h : H) (f : Option AObj → (Option AObj → H) → Bool) : Bool := Ac.rec (motive := fun _ => Bool) (fun g s => f (g h) (s h)) (acB b)

section
variable (P : Program)

/-- A slot that is not laid: what it is, by a slot that is (or none: 256). -/
inductive Vt where
  | val (b : Nat) (g : Env → AV)
  | addr (b : Nat) (g : Env → AV) (off : Nat)
noncomputable def shiftV (off : Nat) (v : AV) : AV :=
  AV.rec (motive_1 := fun _ => AV) (motive_2 := fun _ => Unit) (fun _ => undefA) (fun _ _ => undefA) (fun _ => undefA) undefA (fun b o => .ptr b (Nat.add o off)) undefA (fun _ _ _ _ => undefA) (fun _ _ _ _ => undefA) undefA (fun _ => undefA) (fun _ _ _ _ _ => undefA) undefA (fun _ _ _ => undefA) undefA (fun _ _ => undefA) (fun _ _ => undefA) () (fun _ _ _ _ => ()) v
noncomputable def Vt.get : Vt → Env → AV
  | .val _ g => g
  | .addr _ g off => fun e => shiftV off (g e)
def Vt.base : Vt → Nat
  | .val b _ => b
  | .addr b _ _ => b
def bit (V t : Nat) : Bool := Nat.beq (Nat.land (Nat.shiftRight V t) 1) 1
def lookT (t : Nat) : List (Nat × Vt) → Option Vt
  | [] => none
  | x :: l => if Nat.beq x.1 t then some x.2 else lookT t l
def dropT (t : Nat) : List (Nat × Vt) → List (Nat × Vt)
  | [] => []
  | x :: l => if Nat.beq x.2.base t || Nat.beq x.1 t then dropT t l else x :: dropT t l
/-- What the slots are that are not laid: which, and what. -/
structure Sg where
  V : Nat
  l : List (Nat × Vt)
variable (σ : Sg)
noncomputable def descO (x : Operand) : Option Vt :=
  match x with
  | .tmp t => if Nat.blt t 256 then (if bit σ.V t then lookT t σ.l else match acE t with
    | .mk g _ => some (.val t g)) else none
  | .const v => match ofV 3 v with
    | some a => some (.val 256 fun _ => a)
    | none => none
  | .global g => if Nat.blt g P.globals.size then some (.val 256 fun _ => .ptr g 0) else none
  | .func f => some (.val 256 fun _ => .func (.func f) [] [])
noncomputable def opG (x : Operand) : Option (Env → AV) :=
  match descO P σ x with
  | some d => match d with
    | .val _ g => some g
    | .addr _ g off => some fun e => shiftV off (g e)
  | none => none
noncomputable def opsG : List Operand → Option (Env → List AV)
  | [] => some (fun _ => [])
  | x :: xs => match opG P σ x with
    | some g => match opsG xs with
      | some gs => some (fun e => g e :: gs e)
      | none => none
    | none => none
/-- All slots, as a row. -/
def lst1 {α : Type} (f : α → List AV) (n : N16 α) : List AV := f n.a ++ (f n.b ++ (f n.c ++ (f n.d ++ (f n.e ++ (f n.f ++ (f n.g ++ (f n.h ++ (f n.i ++ (f n.j ++ (f n.k ++ (f n.l ++ (f n.m ++ (f n.n ++ (f n.o ++ (f n.p)))))))))))))))
def lst (e : Env) : List AV := lst1 (lst1 fun v => [v]) e
/-- With what is not laid, too. -/
noncomputable def lay (l : List (Nat × Vt)) (e : Env) : Env := List.rec (motive := fun _ => Env) e (fun x _ ih => (acE x.1).set ih (x.2.get e)) l
/-- A state of which nothing is told. -/
def s00 : AS := ⟨⟨[], 0, none, []⟩, 0⟩
/-- A state of which these blocks are told. -/
noncomputable def asL (h : H) : List Nat → List (Nat × AObj)
  | [] => []
  | b :: l => match (acB b).get h with
    | some o => (b, o) :: asL h l
    | none => asL h l
/-- Are all of an operation's operands told? -/
noncomputable def opsOk (op : Op) : Bool := match opsG P σ op.operands.toList with
  | some _ => true
  | none => false

noncomputable def okNil (v : AV) (r : Bool) : Bool :=
  AV.rec (motive_1 := fun _ => Bool) (motive_2 := fun _ => Unit) (fun _ => false) (fun _ _ => false) (fun _ => false) false (fun _ _ => r) false (fun _ _ _ _ => r) (fun _ _ _ _ => r) false (fun _ => r) (fun f _ _ _ _ => match f with
      | .func _ => r
      | _ => false) false (fun _ _ _ => r) false (fun _ _ => false) (fun _ _ => false) () (fun _ _ _ _ => ()) v
noncomputable def is1 (l : List AV) (y n : Bool) : Bool := List.rec (motive := fun _ => Bool) n (fun _ t _ => List.rec (motive := fun _ => Bool) y (fun _ _ _ => n) t) l
noncomputable def onSl (v : AV) (f : Nat → Nat → Nat → Bool) : Bool :=
  AV.rec (motive_1 := fun _ => Bool) (motive_2 := fun _ => Unit) (fun _ => false) (fun _ _ => false) (fun _ => false) false (fun _ _ => false) false (fun b o n _ => f b o n) (fun b o n _ => f b o n) false (fun _ => false) (fun _ _ _ _ _ => false) false (fun _ _ _ => false) false (fun _ _ => false) (fun _ _ => false) () (fun _ _ _ _ => ()) v
noncomputable def idxK (v i : AV) (sz : Nat) (k : AV → Bool) : Bool :=
  onInt i fun _ z => onNat z (fun m => onSl v fun b o len => ite' (Nat.blt m len) (force (Nat.add o (Nat.mul m sz)) fun o' => k (.ptr b o')) false) false
noncomputable def idxA (v i : AV) (len sz : Nat) (k : AV → Bool) : Bool :=
  onInt i fun _ z => onNat z (fun m => ite' (Nat.blt m len) (onPtr v fun b o => force (Nat.add o (Nat.mul m sz)) fun o' => k (.ptr b o')) false) false
noncomputable def lenK (v : AV) (k : AV → Bool) : Bool :=
  AV.rec (motive_1 := fun _ => Bool) (motive_2 := fun _ => Unit) (fun _ => false) (fun _ _ => false) (fun _ => false) false (fun _ _ => false) (k (.int .i64 0)) (fun _ _ n _ => k (.int .i64 (.ofNat n))) (fun _ _ n _ => k (.int .i64 (.ofNat n))) false (fun _ => false) (fun _ _ _ _ _ => false) false (fun _ _ _ => false) false (fun _ _ => false) (fun _ _ => false) () (fun _ _ _ _ => ()) v
noncomputable def cellsK (v : AV) (f : List AV → Bool) : Bool :=
  AV.rec (motive_1 := fun _ => Bool) (motive_2 := fun _ => Unit) (fun _ => f [v]) (fun _ _ => f [v]) (fun _ => f [v]) (f [v]) (fun _ _ => f [v]) (f [v]) (fun _ _ _ _ => f [v]) (fun _ _ _ _ => f [v]) (f [v]) (fun _ => f [v]) (fun _ _ _ _ _ => f [v]) (f [v]) (fun _ _ _ => f [v]) (f [v]) (fun x0 _ => f x0) (fun _ _ => f [v]) () (fun _ _ _ _ => ()) v
/-- Do the rows end together, and is each of the first one one cell? -/
noncomputable def onesK (l : List AV) : Nat → Bool := List.rec (motive := fun _ => Nat → Bool) (fun n => Nat.beq n 0)
  (fun v _ ih n => onCell v (Nat.rec (motive := fun _ => Bool) false (fun x0 _ => ih x0) n) (fun _ => false)) l
noncomputable def lengthK (l : List AV) : Nat → Bool := List.rec (motive := fun _ => Nat → Bool) (fun n => Nat.beq n 0) (fun _ _ ih n => Nat.rec (motive := fun _ => Bool) false (fun x0 _ => ih x0) n) l
/-- Pointers: are they one? -/
noncomputable def ptrEq (z : Bool) (x y : AV) (k : Bool → Bool) : Bool :=
  AV.rec (motive_1 := fun _ => Bool) (motive_2 := fun _ => Unit) (fun _ => false) (fun _ _ => false) (fun _ => false) (AV.rec (motive_1 := fun _ => Bool) (motive_2 := fun _ => Unit) (fun _ => false) (fun _ _ => false) (fun _ => false) (k true) (fun _ _ => k false) false (fun _ _ _ _ => false) (fun _ _ _ _ => false) false (fun _ => false) (fun _ _ _ _ _ => false) false (fun _ _ _ => false) false (fun _ _ => false) (fun _ _ => false) () (fun _ _ _ _ => ()) y) (fun b o => AV.rec (motive_1 := fun _ => Bool) (motive_2 := fun _ => Unit) (fun _ => false) (fun _ _ => false) (fun _ => false) (k false) (fun c p => ite' (Nat.beq b c) (k (Nat.beq o p)) z) false (fun _ _ _ _ => false) (fun _ _ _ _ => false) false (fun _ => false) (fun _ _ _ _ _ => false) false (fun _ _ _ => false) false (fun _ _ => false) (fun _ _ => false) () (fun _ _ _ _ => ()) y) false (fun _ _ _ _ => false) (fun _ _ _ _ => false) false (fun _ => false) (fun _ _ _ _ _ => false) false (fun _ _ _ => false) false (fun _ _ => false) (fun _ _ => false) () (fun _ _ _ _ => ()) x

/-! (two values of one type: are they one?) -/
noncomputable def boolEq (x y : AV) (k : Bool → Bool) : Bool :=
  AV.rec (motive_1 := fun _ => Bool) (motive_2 := fun _ => Unit) (fun a => AV.rec (motive_1 := fun _ => Bool) (motive_2 := fun _ => Unit) (fun b => k (Bool.rec (motive := fun _ => Bool) (not b) b a)) (fun _ _ => false) (fun _ => false) (false) (fun _ _ => false) (false) (fun _ _ _ _ => false) (fun _ _ _ _ => false) (false) (fun _ => false) (fun _ _ _ _ _ => false) (false) (fun _ _ _ => false) (false) (fun _ _ => false) (fun _ _ => false) () (fun _ _ _ _ => ()) y) (fun _ _ => false) (fun _ => false) (false) (fun _ _ => false) (false) (fun _ _ _ _ => false) (fun _ _ _ _ => false) (false) (fun _ => false) (fun _ _ _ _ _ => false) (false) (fun _ _ _ => false) (false) (fun _ _ => false) (fun _ _ => false) () (fun _ _ _ _ => ()) x
noncomputable def sliEq (x y : AV) (k : Bool → Bool) : Bool :=
  AV.rec (motive_1 := fun _ => Bool) (motive_2 := fun _ => Unit) (fun _ => false) (fun _ _ => false) (fun _ => false) (false) (fun _ _ => false) (AV.rec (motive_1 := fun _ => Bool) (motive_2 := fun _ => Unit) (fun _ => false) (fun _ _ => false) (fun _ => false) (false) (fun _ _ => false) (k true) (fun _ _ _ _ => k false) (fun _ _ _ _ => k false) (false) (fun _ => false) (fun _ _ _ _ _ => false) (false) (fun _ _ _ => false) (false) (fun _ _ => false) (fun _ _ => false) () (fun _ _ _ _ => ()) y) (fun _ _ _ _ => AV.rec (motive_1 := fun _ => Bool) (motive_2 := fun _ => Unit) (fun _ => false) (fun _ _ => false) (fun _ => false) (false) (fun _ _ => false) (k false) (fun _ _ _ _ => false) (fun _ _ _ _ => false) (false) (fun _ => false) (fun _ _ _ _ _ => false) (false) (fun _ _ _ => false) (false) (fun _ _ => false) (fun _ _ => false) () (fun _ _ _ _ => ()) y) (fun _ _ _ _ => AV.rec (motive_1 := fun _ => Bool) (motive_2 := fun _ => Unit) (fun _ => false) (fun _ _ => false) (fun _ => false) (false) (fun _ _ => false) (k false) (fun _ _ _ _ => false) (fun _ _ _ _ => false) (false) (fun _ => false) (fun _ _ _ _ _ => false) (false) (fun _ _ _ => false) (false) (fun _ _ => false) (fun _ _ => false) () (fun _ _ _ _ => ()) y) (false) (fun _ => false) (fun _ _ _ _ _ => false) (false) (fun _ _ _ => false) (false) (fun _ _ => false) (fun _ _ => false) () (fun _ _ _ _ => ()) x
noncomputable def mapEq (x y : AV) (k : Bool → Bool) : Bool :=
  AV.rec (motive_1 := fun _ => Bool) (motive_2 := fun _ => Unit) (fun _ => false) (fun _ _ => false) (fun _ => false) (false) (fun _ _ => false) (false) (fun _ _ _ _ => false) (fun _ _ _ _ => false) (AV.rec (motive_1 := fun _ => Bool) (motive_2 := fun _ => Unit) (fun _ => false) (fun _ _ => false) (fun _ => false) (false) (fun _ _ => false) (false) (fun _ _ _ _ => false) (fun _ _ _ _ => false) (k true) (fun _ => k false) (fun _ _ _ _ _ => false) (false) (fun _ _ _ => false) (false) (fun _ _ => false) (fun _ _ => false) () (fun _ _ _ _ => ()) y) (fun _ => AV.rec (motive_1 := fun _ => Bool) (motive_2 := fun _ => Unit) (fun _ => false) (fun _ _ => false) (fun _ => false) (false) (fun _ _ => false) (false) (fun _ _ _ _ => false) (fun _ _ _ _ => false) (k false) (fun _ => false) (fun _ _ _ _ _ => false) (false) (fun _ _ _ => false) (false) (fun _ _ => false) (fun _ _ => false) () (fun _ _ _ _ => ()) y) (fun _ _ _ _ _ => false) (false) (fun _ _ _ => false) (false) (fun _ _ => false) (fun _ _ => false) () (fun _ _ _ _ => ()) x
noncomputable def funEq (x y : AV) (k : Bool → Bool) : Bool :=
  AV.rec (motive_1 := fun _ => Bool) (motive_2 := fun _ => Unit) (fun _ => false) (fun _ _ => false) (fun _ => false) (false) (fun _ _ => false) (false) (fun _ _ _ _ => false) (fun _ _ _ _ => false) (false) (fun _ => false) (fun _ _ _ _ _ => AV.rec (motive_1 := fun _ => Bool) (motive_2 := fun _ => Unit) (fun _ => false) (fun _ _ => false) (fun _ => false) (false) (fun _ _ => false) (false) (fun _ _ _ _ => false) (fun _ _ _ _ => false) (false) (fun _ => false) (fun _ _ _ _ _ => false) (k false) (fun _ _ _ => false) (false) (fun _ _ => false) (fun _ _ => false) () (fun _ _ _ _ => ()) y) (AV.rec (motive_1 := fun _ => Bool) (motive_2 := fun _ => Unit) (fun _ => false) (fun _ _ => false) (fun _ => false) (false) (fun _ _ => false) (false) (fun _ _ _ _ => false) (fun _ _ _ _ => false) (false) (fun _ => false) (fun _ _ _ _ _ => k false) (k true) (fun _ _ _ => false) (false) (fun _ _ => false) (fun _ _ => false) () (fun _ _ _ _ => ()) y) (fun _ _ _ => false) (false) (fun _ _ => false) (fun _ _ => false) () (fun _ _ _ _ => ()) x
noncomputable def ifcEq (c : Bool) (x y : AV) (k : Bool → Bool) : Bool :=
  AV.rec (motive_1 := fun _ => Bool) (motive_2 := fun _ => Unit) (fun _ => false) (fun _ _ => false) (fun _ => false) (false) (fun _ _ => false) (false) (fun _ _ _ _ => false) (fun _ _ _ _ => false) (false) (fun _ => false) (fun _ _ _ _ _ => false) (false) (fun t _ _ => AV.rec (motive_1 := fun _ => Bool) (motive_2 := fun _ => Unit) (fun _ => false) (fun _ _ => false) (fun _ => false) (false) (fun _ _ => false) (false) (fun _ _ _ _ => false) (fun _ _ _ _ => false) (false) (fun _ => false) (fun _ _ _ _ _ => false) (false) (fun u _ _ => ite' (Nat.beq t u) false (k false)) (k false) (fun _ _ => false) (fun _ _ => false) () (fun _ _ _ _ => ()) y) (AV.rec (motive_1 := fun _ => Bool) (motive_2 := fun _ => Unit) (fun _ => false) (fun _ _ => false) (fun _ => false) (false) (fun _ _ => false) (false) (fun _ _ _ _ => false) (fun _ _ _ _ => false) (false) (fun _ => false) (fun _ _ _ _ _ => false) (false) (fun _ _ _ => k false) (ite' c (k true) false) (fun _ _ => false) (fun _ _ => false) () (fun _ _ _ _ => ()) y) (fun _ _ => false) (fun _ _ => false) () (fun _ _ _ _ => ()) x

/-- By the slow way: what turns nothing, and reads nothing. -/
noncomputable def slowP (op : Op) : Xo := if opsOk P σ op then .pur fun e k => onSome (valA P (lst (lay σ.l e)) s00 op) k else .bad
noncomputable def slowRK (op : Op) (e : Env) (h : H) (k : AV → Bool) : Bool := onSome (touchA P (lst (lay σ.l e)) op) fun l =>
  ite' (l.all fun b => ((acB b).get h).isSome) (onSome (valA P (lst (lay σ.l e)) ⟨⟨asL h l, 0, none, []⟩, 0⟩ op) k) false
noncomputable def slowR (op : Op) : Xo := if opsOk P σ op then .rd fun e h _ k => slowRK P σ op e h k else .bad
noncomputable def slowA (op : Op) : Xo := if opsOk P σ op then .alc fun e n k => onSome (allocA P (lst (lay σ.l e)) n op) fun x => k x.1 x.2 else .bad

noncomputable def putPart (size off : Nat) (v : AV) (cs : List AV) (f : List AV → Bool) : Bool :=
  AV.rec (motive_1 := fun _ => Bool) (motive_2 := fun _ => Unit) (fun _ => ite' (Nat.beq size 1) (setK v off cs f) false) (fun _ _ => ite' (Nat.beq size 1) (setK v off cs f) false) (fun _ => ite' (Nat.beq size 1) (setK v off cs f) false) (ite' (Nat.beq size 1) (setK v off cs f) false) (fun _ _ => ite' (Nat.beq size 1) (setK v off cs f) false) (ite' (Nat.beq size 1) (setK v off cs f) false) (fun _ _ _ _ => ite' (Nat.beq size 1) (setK v off cs f) false) (fun _ _ _ _ => ite' (Nat.beq size 1) (setK v off cs f) false) (ite' (Nat.beq size 1) (setK v off cs f) false) (fun _ => ite' (Nat.beq size 1) (setK v off cs f) false) (fun _ _ _ _ _ => ite' (Nat.beq size 1) (setK v off cs f) false) (ite' (Nat.beq size 1) (setK v off cs f) false) (fun _ _ _ => ite' (Nat.beq size 1) (setK v off cs f) false) (ite' (Nat.beq size 1) (setK v off cs f) false) (fun vs _ => ite' (lengthK vs size) (spliceK vs off cs f) false) (fun _ _ => ite' (Nat.beq size 1) (setK v off cs f) false) () (fun _ _ _ _ => ()) v
noncomputable def fillG (places : Nat → Option (Nat × Nat)) : List (Nat × Operand) → Option (Env → List AV → (List AV → Bool) → Bool)
  | [] => some (fun _ cs f => f cs)
  | (i, x) :: l => match places i with
    | some (off, size) => match opG P σ x with
      | some g => match fillG places l with
        | some r => some (fun e cs f => putPart size off (g e) cs (fun cs' => r e cs' f))
        | none => none
      | none => none
    | none => none

/-! ### operations that turn something -/
noncomputable def storeK (size : Nat) (a v : AV) (h : H) (n : Nat) (k : KV) : Bool :=
  onPtr a fun b o => onB b h fun c s => onRW c fun cs =>
    onCell v (ite' (Nat.beq size 1) (setK v o cs fun cs' => k undefA (s (some (.cells false cs'))) n) false)
      (fun vs => ite' (onesK vs size) (spliceK vs o cs fun cs' => k undefA (s (some (.cells false cs'))) n) false)
noncomputable def app (l m : List AV) : List AV := List.rec (motive := fun _ => List AV) m (fun x _ ih => x :: ih) l
noncomputable def callV (r : RecT) (v : AV) (args : List AV) (h : H) (n : Nat) (k : KV) : Bool :=
  onFunc v fun fn first cap => match fn with
    | .func g => ite' (callableA P g) (r g (app first (app args cap)) h n k) false
    | _ => false
/-- Cells of a row's first n elements. -/
noncomputable def firstK (h : H) (cnt : Nat) (v : AV) (f : List AV → Bool) : Bool :=
  AV.rec (motive_1 := fun _ => Bool) (motive_2 := fun _ => Unit) (fun _ => false) (fun _ _ => false) (fun _ => false) false (fun _ _ => false) (f []) (fun b o _ _ => onB b h fun c _ => onCells c fun cs => dropK (fun l => takeK cnt l f) o cs) (fun b o _ _ => onB b h fun c _ => onCells c fun cs => dropK (fun l => takeK cnt l f) o cs) false (fun _ => false) (fun _ _ _ _ _ => false) false (fun _ _ _ => false) false (fun _ _ => false) (fun _ _ => false) () (fun _ _ _ _ => ()) v
noncomputable def slenK (v : AV) (f : Nat → Bool) : Bool :=
  AV.rec (motive_1 := fun _ => Bool) (motive_2 := fun _ => Unit) (fun _ => false) (fun _ _ => false) (fun _ => false) false (fun _ _ => false) (f 0) (fun _ _ n _ => f n) (fun _ _ n _ => f n) false (fun _ => false) (fun _ _ _ _ _ => false) false (fun _ _ _ => false) false (fun _ _ => false) (fun _ _ => false) () (fun _ _ _ _ => ()) v
noncomputable def pushK (o : AObj) (h : H) (n : Nat) (k : H → Nat → Bool) : Bool := ite' (Nat.blt n Hmax) (onB n h fun _ s => force (Nat.succ n) fun n' => k (s (some o)) n') false
noncomputable def appendK (sz : Nat) (x y : AV) (h : H) (n : Nat) (k : KV) : Bool :=
  slenK y fun m => firstK h (Nat.mul m sz) y fun new => ite' (onesK new (Nat.mul m sz))
    (AV.rec (motive_1 := fun _ => Bool) (motive_2 := fun _ => Unit) (fun _ => false) (fun _ _ => false) (fun _ => false) false (fun _ _ => false) (ite' (Nat.beq m 0) (k .nilSlice h n) (ite' (Mini.small m) (force m fun m' => pushK (.cells false new) h n fun h' n' => k (.osl n 0 m' sz) h' n') false)) (fun b o len cap => ite' (Nat.ble (Nat.add len m) cap)
        (ite' (Nat.beq m 0) (k (.slice b o len cap) h n) (onB b h fun c s => onRW c fun cs => spliceK new (Nat.add o (Nat.mul len sz)) cs fun cs' => force (Nat.add len m) fun l' => k (.slice b o l' cap) (s (some (.cells false cs'))) n))
        (ite' (Mini.small (Nat.add len m)) (onB b h fun c _ => onCells c fun cs => dropK (fun l => takeK (Nat.mul len sz) l fun old => ite' (onesK old (Nat.mul len sz))
          (force (Nat.add len m) fun l' => pushK (.cells false (app old new)) h n fun h' n' => k (.osl n 0 l' sz) h' n') false) o cs) false)) (fun b o len esz => ite' (Nat.beq esz sz) (ite' (Nat.beq m 0) (k (.osl b o len esz) h n) (ite' (Mini.small (Nat.add len m))
        (onB b h fun c s => onRW c fun cs => dropK (fun l => takeK (Nat.mul len sz) l fun old => ite' (onesK old (Nat.mul len sz))
          (force (Nat.add len m) fun l' => pushK (.cells false (app old new)) (s (some .dead)) n fun h' n' => k (.osl n 0 l' sz) h' n') false) o cs) false)) false) false (fun _ => false) (fun _ _ _ _ _ => false) false (fun _ _ _ => false) false (fun _ _ => false) (fun _ _ => false) () (fun _ _ _ _ => ()) x) false
noncomputable def copyK (sz : Nat) (x y : AV) (h : H) (n : Nat) (k : KV) : Bool :=
  slenK x fun dl => slenK y fun sl => force (Nat.min sl dl) fun m => firstK h (Nat.mul m sz) y fun new =>
    AV.rec (motive_1 := fun _ => Bool) (motive_2 := fun _ => Unit) (fun _ => false) (fun _ _ => false) (fun _ => false) false (fun _ _ => false) (k (.int .i64 (.ofNat m)) h n) (fun b o _ cap => ite' (Nat.beq cap 0) (k (.int .i64 (.ofNat m)) h n) (onB b h fun c s => onRW c fun cs => ite' (onesK new (Nat.mul m sz)) (spliceK new o cs fun cs' => k (.int .i64 (.ofNat m)) (s (some (.cells false cs'))) n) false)) (fun b o _ _ => onB b h fun c s => onRW c fun cs => ite' (onesK new (Nat.mul m sz)) (spliceK new o cs fun cs' => k (.int .i64 (.ofNat m)) (s (some (.cells false cs'))) n) false) false (fun _ => false) (fun _ _ _ _ _ => false) false (fun _ _ _ => false) false (fun _ _ => false) (fun _ _ => false) () (fun _ _ _ _ => ()) x

/-! ### maps whose keys are rows of numbers, and of truths -/
/-- A cell of a key as a number: none below 0, each below 2^64. -/
noncomputable def cellN (c : Option IntKind) (v : AV) : Option Nat :=
  match c, v with
  | some k, .int k' (.ofNat m) => if kEq k k' && Nat.blt m 18446744073709551616 then some m else none
  | none, .bool b => some (Bool.toNat b)
  | _, _ => none
noncomputable def codeL : List (Option IntKind) → List AV → Option Nat
  | [], [] => some 0
  | c :: cs, v :: vs => match cellN c v with
    | some m => match codeL cs vs with
      | some r => some (Nat.add (Nat.mul r 18446744073709551616) m)
      | none => none
    | none => none
  | _, _ => none
/-- What keys are: one cell, or a row. -/
inductive KS where
  | one (c : Option IntKind)
  | row (cs : List (Option IntKind))
noncomputable def codeA (cs : KS) (v : AV) : Option Nat :=
  match cs, v with
  | .one c, v => cellN c v
  | .row cs, .agg l => codeL cs l
  | _, _ => none
noncomputable def flatF : List Field → Nat → Option (List (Option IntKind))
  | [], _ => some []
  | f :: fs, o => if Nat.beq f.offset o then (match P.underlying f.type, flatF fs (o + 1) with
    | some (.int k), some l => some (some k :: l)
    | some .bool, some l => some (none :: l)
    | _, _ => none) else none
noncomputable def flatK (t : TypeId) : Option KS :=
  match P.underlying t with
  | some (.int k) => some (.one (some k))
  | some (.struct fs) => if P.stoodInHeld t || !noBlank fs then none else (flatF P fs.toList 0).map .row
  | _ => none

noncomputable def lookK (cs : KS) (c : Nat) (hit : AV → Bool) (miss : Bool) (es : List (AV × AV)) : Bool :=
  List.rec (motive := fun _ => Bool) miss (fun e _ ih => onSome (codeA cs e.1) fun c' => ite' (Nat.beq c' c) (hit e.2) ih) es
/-- What stands at a key, its stamp, and the rows with something else there (or behind all). -/
noncomputable def updK (cs : KS) (c : Nat) (mk : AV → AV × AV) (es : List (AV × AV)) : List Nat → (AV → Nat → List (AV × AV) → Bool) → Bool → Bool :=
  List.rec (motive := fun _ => List Nat → (AV → Nat → List (AV × AV) → Bool) → Bool → Bool) (fun _ _ miss => miss)
    (fun e t ih bn hit miss => onSome (codeA cs e.1) fun c' => List.rec (motive := fun _ => Bool) false (fun n bn' _ =>
      ite' (Nat.beq c' c) (hit e.2 n (mk e.2 :: t)) (ih bn' (fun v n l => hit v n (e :: l)) miss)) bn) es
noncomputable def stampK (n : Nat) (v : AV) (es : List (AV × AV)) : List Nat → (List (AV × AV) → Bool) → Bool :=
  List.rec (motive := fun _ => List Nat → (List (AV × AV) → Bool) → Bool) (fun _ _ => false)
    (fun e t ih bn hit => List.rec (motive := fun _ => Bool) false (fun m bn' _ => ite' (Nat.beq m n) (hit ((e.1, v) :: t)) (ih bn' (fun l => hit (e :: l)))) bn) es
noncomputable def delK (cs : KS) (c : Nat) (es : List (AV × AV)) : List Nat → (List (AV × AV) → List Nat → Bool) → Bool → Bool :=
  List.rec (motive := fun _ => List Nat → (List (AV × AV) → List Nat → Bool) → Bool → Bool) (fun _ _ miss => miss)
    (fun e t ih bn hit miss => onSome (codeA cs e.1) fun c' => List.rec (motive := fun _ => Bool) false (fun n bn' _ =>
      ite' (Nat.beq c' c) (hit t bn') (ih bn' (fun l m => hit (e :: l) (n :: m)) miss)) bn) es
noncomputable def snocK {α : Type} (l : List α) (x : α) (f : List α → Bool) : Bool :=
  List.rec (motive := fun _ => (List α → Bool) → Bool) (fun f => f [x]) (fun y _ ih f => ih fun r => f (y :: r)) l f
noncomputable def codeK (cs : KS) (v : AV) (f : Nat → Bool) : Bool := onSome (codeA cs v) fun c => force c f
/-- A map's block. -/
noncomputable def onMB (m : AV) (h : H) (f : List (AV × AV) → List Nat → Nat → (Option AObj → H) → Bool) (nil : Bool) : Bool :=
  onMap m (fun b => onB b h fun c s => onMapO c fun es bn ck => f es bn ck s) nil
noncomputable def lookupK (cs : KS) (z : AV) (ok : Bool) (m k : AV) (h : H) (f : AV → Bool) : Bool :=
  codeK cs k fun c => onMap m (fun b => onB b h fun o _ => onMapO o fun es _ _ =>
    lookK cs c (fun v => f (Bool.rec (motive := fun _ => AV) v (.tuple [v, .bool true]) ok)) (f (Bool.rec (motive := fun _ => AV) z (.tuple [z, .bool false]) ok)) es)
    (f (Bool.rec (motive := fun _ => AV) z (.tuple [z, .bool false]) ok))
noncomputable def updateK (cs : KS) (m k v : AV) (h : H) (n : Nat) (f : KV) : Bool :=
  codeK cs k fun c => onMB m h (fun es bn ck s => updK cs c (fun _ => (k, v)) es bn (fun _ _ l => f undefA (s (some (.map l bn ck))) n)
    (snocK es (k, v) fun l => snocK bn ck fun bn' => force (Nat.succ ck) fun ck' => f undefA (s (some (.map l bn' ck'))) n)) false
noncomputable def entryK (cs : KS) (z m k : AV) (h : H) (n : Nat) (f : KV) : Bool :=
  codeK cs k fun c => onMB m h (fun es bn ck s => updK cs c (fun v => (k, v)) es bn (fun v st l => f (.tuple [v, .int .i64 (.ofNat st)]) (s (some (.map l bn ck))) n)
    (snocK es (k, z) fun l => snocK bn ck fun bn' => force (Nat.succ ck) fun ck' => f (.tuple [z, .int .i64 (.ofNat ck)]) (s (some (.map l bn' ck'))) n)) false
noncomputable def entryStoreK (m st v : AV) (h : H) (n : Nat) (f : KV) : Bool :=
  onInt st fun _ z => onNat z (fun i => onMB m h (fun es bn ck s => stampK i v es bn fun l => f undefA (s (some (.map l bn ck))) n) false) false
noncomputable def deleteK (cs : KS) (m k : AV) (h : H) (n : Nat) (f : KV) : Bool :=
  codeK cs k fun c => onMB m h (fun es bn ck s => delK cs c es bn (fun l bn' => f undefA (s (some (.map l bn' ck))) n) (f undefA h n)) (f undefA h n)

/-! ### operations -/
noncomputable def eltSize (t : TypeId) : Option Nat :=
  match P.underlying t with
  | some (.slice e) => match P.info? e with
    | some i => match i.size, i.zero with
      | size + 1, some z => if Nat.ble i.bytes 4096 && Nat.beq z.cells.size (size + 1) then some (size + 1) else none
      | _, _ => none
    | none => none
  | _ => none
noncomputable def compCall (c : Call) : Xo :=
  match opsG P σ c.args.toList with
  | none => .bad
  | some gs => match c.callee with
    | .value f => match f with
      | .func g => if callableA P g then .eff (fun r e h n k => r g (gs e) h n k) else .bad
      | f => match opG P σ f with
        | some gf => .eff fun r e h n k => callV P r (gf e) (gs e) h n k
        | none => .bad
    | .invoke x name => match opG P σ x with
      | some gr => .eff fun r e h n k => onIface (gr e) (fun t v => onSome (methodA P t name) fun g => ite' (callableA P g) (r g (v :: gs e) h n k) false) false
      | none => .bad
    | .builtin .len => match c.args.toList, c.argTypes.toList with
      | [x], t :: _ => match opG P σ x, P.underlying t with
        | some g, some (.slice _) => .rd fun e _ _ k => lenK (g e) k
        | _, _ => slowR P σ (.call c)
      | _, _ => .bad
    | .builtin .cap => slowP P σ (.call c)
    | .builtin .max => slowP P σ (.call c)
    | .builtin .min => slowP P σ (.call c)
    | .builtin .append => match c.args.toList, c.argTypes.toList with
      | [x, y], t :: t2 :: _ => match opG P σ x, opG P σ y, eltSize P t, P.underlying t2 with
        | some gx, some gy, some sz, some (.slice _) => .eff fun _ e h n k => appendK sz (gx e) (gy e) h n k
        | _, _, _, _ => .bad
      | _, _ => .bad
    | .builtin .copy => match c.args.toList, c.argTypes.toList with
      | [x, y], t :: _ => match opG P σ x, opG P σ y, P.underlying t with
        | some gx, some gy, some (.slice el) => match sizeA P el with
          | some sz => .eff fun _ e h n k => copyK sz (gx e) (gy e) h n k
          | none => .bad
        | _, _, _ => .bad
      | _, _ => .bad
    | .builtin .delete => match c.args.toList, c.argTypes.toList with
      | [x, y], t :: _ => match opG P σ x, opG P σ y, P.underlying t with
        | some gx, some gy, some (.map kt _) => match flatK P kt with
          | some cs => .eff fun _ e h n k => deleteK cs (gx e) (gy e) h n k
          | none => .bad
        | _, _, _ => .bad
      | _, _ => .bad
    | _ => .bad
noncomputable def compEq (c : Bool) (t : TypeId) (gx gy : Env → AV) (whole : Op) (r : Bool → AV) : Xo :=
  match P.underlying t with
  | some (.pointer el) => match sizeA P el with
    | some (_ + 1) => .rd fun e h _ k => ptrEq (slowRK P σ whole e h k) (gx e) (gy e) fun b => k (r b)
    | _ => slowR P σ whole
  | some .bool => .rd fun e _ _ k => boolEq (gx e) (gy e) fun b => k (r b)
  | some (.slice _) => .rd fun e _ _ k => sliEq (gx e) (gy e) fun b => k (r b)
  | some (.map _ _) => .rd fun e _ _ k => mapEq (gx e) (gy e) fun b => k (r b)
  | some (.func _ _ _) => .rd fun e _ _ k => funEq (gx e) (gy e) fun b => k (r b)
  | some (.interface _) => .rd fun e _ _ k => ifcEq c (gx e) (gy e) fun b => k (r b)
  | _ => slowR P σ whole
noncomputable def isInt (t : TypeId) : Bool := match P.underlying t with
  | some (.int _) => true
  | _ => false
noncomputable def compBin (op : BinOp) (c : Bool) (t : TypeId) (gx gy : Env → AV) (whole : Op) : Xo :=
  match op with
  | .eql => if isInt P t then .rd fun e _ _ k => intsK (binI .eql) (gx e) (gy e) k else compEq P σ c t gx gy whole fun b => .bool b
  | .neq => if isInt P t then .rd fun e _ _ k => intsK (binI .neq) (gx e) (gy e) k else compEq P σ c t gx gy whole fun b => .bool !b
  | .shl => .pur fun e k => shiftK shlK (gx e) (gy e) k
  | .shr => .pur fun e k => shiftK shrK (gx e) (gy e) k
  | op => .pur fun e k => intsK (binI op) (gx e) (gy e) k
noncomputable def compOp (op : Op) : Xo :=
  match op with
  | .move x => match opG P σ x with
    | some g => .mov g
    | none => .bad
  | .assign x => match opG P σ x with
    | some g => .mov g
    | none => .bad
  | .pick c a b => match opG P σ c, opG P σ a, opG P σ b with
    | some gc, some ga, some gb => .pur fun e k => onBool (gc e) (k (ga e)) (k (gb e))
    | _, _, _ => .bad
  | .build t parts => match zeroA P t, P.underlying t with
    | some z, some (.struct fields) => match placesA P fields.toList with
      | some places => match fillG P σ (fun i => places[i]?) parts.toList with
        | some g => .pur fun e k => g e z.cells fun cs => k (.agg cs)
        | none => .bad
      | none => .bad
    | some z, some (.array _ el) => match sizeA P el with
      | some size => match fillG P σ (fun i => some (i * size, size)) parts.toList with
        | some g => .pur fun e k => g e z.cells fun cs => k (.agg cs)
        | none => .bad
      | none => .bad
    | _, _ => .bad
  | .nilCheck x => match opG P σ x with
    | some g => .pur fun e k => okNil (g e) (k (g e))
    | none => .bad
  | .binOp bop t x y _ => match opG P σ x, opG P σ y with
    | some gx, some gy => compBin P σ bop (constO x || constO y) t gx gy op
    | _, _ => .bad
  | .unOp .not _ x => match opG P σ x with
    | some g => .pur fun e k => onBool (g e) (k (.bool false)) (k (.bool true))
    | none => .bad
  | .unOp .. => slowP P σ op
  | .convert src dst x => match P.underlying src, P.underlying dst, opG P σ x with
    | some _, some (.int ki), some g => .pur fun e k => convK ki (g e) k
    | _, _, _ => slowP P σ op
  | .makeInterface t x => match opG P σ x, P.underlying t with
    | some _, some (.interface _) => .bad
    | some g, some _ => .pur fun e k => k (.iface t (g e))
    | _, _ => .bad
  | .makeFunc fn first captured => match opsG P σ first.toList, opsG P σ captured.toList with
    | some ga, some gb => .pur fun e k => k (.func fn (ga e) (gb e))
    | _, _ => .bad
  | .slice .. => slowP P σ op
  | .fieldAddr t x f => match P.underlying t, opG P σ x with
    | some (.struct fields), some g => match fields[f]? with
      | some fd => match sizeA P fd.type with
        | some (_ + 1) => .pur fun e k => onPtr (g e) fun b o => force (Nat.add o fd.offset) fun o' => k (.ptr b o')
        | _ => .bad
      | none => .bad
    | _, _ => .bad
  | .field t x f => match P.underlying t, opG P σ x with
    | some (.struct fields), some g => match fields[f]? with
      | some fd => match isAggA P fd.type, sizeA P fd.type with
        | some false, _ => .pur fun e k => onAgg (g e) fun cs => nthK k fd.offset cs
        | some true, some n => .pur fun e k => onAgg (g e) fun cs => dropK (fun l => takeK n l fun r => k (.agg r)) fd.offset cs
        | _, _ => .bad
      | none => .bad
    | _, _ => .bad
  | .indexAddr t x i => match P.underlying t, opG P σ x, opG P σ i with
    | some (.slice el), some gx, some gi => match sizeA P el with
      | some sz => .pur fun e k => idxK (gx e) (gi e) sz k
      | none => .bad
    | some (.array len el), some gx, some gi => match sizeA P el with
      | some sz => .pur fun e k => idxA (gx e) (gi e) len sz k
      | none => .bad
    | _, _, _ => .bad
  | .index t x i => match P.underlying t, opG P σ x, opG P σ i with
    | some (.array len el), some gx, some gi => match isAggA P el, sizeA P el with
      | some false, some sz => .pur fun e k => onInt (gi e) fun _ z => onNat z (fun m => ite' (Nat.blt m len) (onAgg (gx e) fun cs => force (Nat.mul m sz) fun o => nthK k o cs) false) false
      | some true, some sz => .pur fun e k => onInt (gi e) fun _ z => onNat z (fun m => ite' (Nat.blt m len) (onAgg (gx e) fun cs => force (Nat.mul m sz) fun o => dropK (fun l => takeK sz l fun r => k (.agg r)) o cs) false) false
      | _, _ => .bad
    | _, _, _ => slowP P σ op
  | .typeAssert x _ asserted ok => match P.underlying asserted, opG P σ x, zeroA P asserted with
    | some (.interface _), _, _ => .bad
    | some _, some g, some z => .pur fun e k =>
      onIface (g e) (fun t v => ite' (Nat.beq t asserted) (k (Bool.rec (motive := fun _ => AV) v (.tuple [v, .bool true]) ok)) (ite' ok (k (.tuple [z, .bool false])) false)) (ite' ok (k (.tuple [z, .bool false])) false)
    | _, _, _ => .bad
  | .extract x i => match opG P σ x with
    | some g => .pur fun e k => onTup (g e) fun vs => is1 vs false (nthK k i vs)
    | none => .bad
  | .load t a => match isAggA P t, sizeA P t, opG P σ a with
    | some false, _, some g => .rd fun e h _ k => onPtr (g e) fun b o => onB b h fun c _ => onCells c fun cs => nthK k o cs
    | some true, some n, some g => .rd fun e h _ k => onPtr (g e) fun b o => onB b h fun c _ => onCells c fun cs => dropK (fun l => takeK n l fun r => k (.agg r)) o cs
    | _, _, _ => .bad
  | .lookup t m key ok => match P.underlying t, opG P σ m, opG P σ key with
    | some (.map kt et), some gm, some gk => match flatK P kt, zeroA P et with
      | some cs, some z => .rd fun e h _ k => lookupK cs z ok (gm e) (gk e) h k
      | _, _ => .bad
    | _, _, _ => .bad
  | .alloc t => match zeroA P t with
    | some z => .alc fun _ n k => k (.ptr n 0) (.cells false z.cells)
    | none => .bad
  | .box _ x => match opG P σ x with
    | some g => .alc fun e n k => cellsK (g e) fun cs => k (.ptr n 0) (.cells false cs)
    | none => .bad
  | .buildSlice .. => slowA P σ op
  | .makeMap t r => match r with
    | none => .alc fun _ n k => k (.map n) (.map [] [] 0)
    | some _ => slowA P σ (.makeMap t r)
  | .makeSlice .. => slowA P σ op
  | .store t a x => match sizeA P t, opG P σ a, opG P σ x with
    | some sz, some ga, some gx => .eff fun _ e h n k => storeK sz (ga e) (gx e) h n k
    | _, _, _ => .bad
  | .mapUpdate t m key x => match P.underlying t, opG P σ m, opG P σ key, opG P σ x with
    | some (.map kt _), some gm, some gk, some gx => match flatK P kt with
      | some cs => .eff fun _ e h n k => updateK cs (gm e) (gk e) (gx e) h n k
      | none => .bad
    | _, _, _, _ => .bad
  | .insert t m key x => match P.underlying t, opG P σ m, opG P σ key, opG P σ x with
    | some (.map kt _), some gm, some gk, some gx => match flatK P kt with
      | some cs => .eff fun _ e h n k => updateK cs (gm e) (gk e) (gx e) h n k
      | none => .bad
    | _, _, _, _ => .bad
  | .mapEntry t m key => match P.underlying t, opG P σ m, opG P σ key with
    | some (.map kt et), some gm, some gk => match flatK P kt, zeroA P et with
      | some cs, some z => .eff fun _ e h n k => entryK cs z (gm e) (gk e) h n k
      | _, _ => .bad
    | _, _, _ => .bad
  | .entryStore _ m st x => match opG P σ m, opG P σ st, opG P σ x with
    | some gm, some gs, some gx => .eff fun _ e h n k => entryStoreK (gm e) (gs e) (gx e) h n k
    | _, _, _ => .bad
  | .call c => compCall P σ c
  | _ => .bad
end
end Go.Mini.Fast
namespace Go.Mini.Fast
open Go

/-! ### regions -/
noncomputable def putG (N : Nat) (dst : Option Tmp) : Option (Env → AV → Env) :=
  match dst with
  | none => some (fun e _ => e)
  | some d => if Nat.blt d N && Nat.blt d 256 then (match acE d with
    | .mk _ s => some s) else none
/-- What an operation hangs on: done, passed over, or not told. -/
noncomputable def onGuard (v : AV) (want : Bool) (x y : Bool) : Bool :=
  AV.rec (motive_1 := fun _ => Bool) (motive_2 := fun _ => Unit) (fun b => Bool.rec (motive := fun _ => Bool) (Bool.rec (motive := fun _ => Bool) x y want) (Bool.rec (motive := fun _ => Bool) y x want) b) (fun _ _ => false) (fun _ => false) false (fun _ _ => false) false (fun _ _ _ _ => false) (fun _ _ _ _ => false) false (fun _ => false) (fun _ _ _ _ _ => false) false (fun _ _ _ => false) false (fun _ _ => false) (fun l _ => List.rec (motive := fun _ => Bool) y (fun _ _ _ => false) l) () (fun _ _ _ _ => ()) v
inductive Gd where
  | free
  | on (g : Env → AV) (want : Bool)
  | bad
/-- One operation, its value put; y: what comes then. -/
noncomputable def doX (x : Xo) (put : Env → AV → Env) (y : XE) : Option XE :=
  match x with
  | .mov g => some fun r e h n k => y r (put e (g e)) h n k
  | .pur f => some fun r e h n k => f e fun v => y r (put e v) h n k
  | .rd f => some fun r e h n k => f e h n fun v => y r (put e v) h n k
  | .alc f => some fun r e h n k => f e n fun v o => pushK o h n fun h' n' => y r (put e v) h' n' k
  | .eff f => some fun r e h n k => f r e h n fun v h' n' => y r (put e v) h' n' k
  | .bad => none
noncomputable def guardX (g : Gd) (put : Env → AV → Env) (x y : XE) : Option XE :=
  match g with
  | .free => some x
  | .on gg want => some fun r e h n k => onGuard (gg e) want (x r e h n k) (y r (put e undefA) h n k)
  | .bad => none
section
variable (P : Program)
noncomputable def guardG (σ : Sg) (ops : Array Oper) (o : Oper) : Gd :=
  match o.guard with
  | none => .free
  | some (j, want) => match dstOf ops j with
    | some d => match opG P σ (.tmp d) with
      | some g => .on g want
      | none => .bad
    | none => .bad
/-- Is a slot laid? -/
def laid (V : Nat) : Option Tmp → Bool
  | none => true
  | some d => !bit V d
noncomputable def operX (N : Nat) (σ : Sg) (ops : Array Oper) (o : Oper) (y : XE) : Option XE :=
  if laid σ.V o.dst then (match putG N o.dst with
  | some put => match doX (compOp P σ o.op) put y with
    | some x => guardX (guardG P σ ops o) put x y
    | none => none
  | none => none) else none
noncomputable def fieldOff (t f : Nat) : Option Nat :=
  match P.underlying t with
  | some (.struct fields) => match fields[f]? with
    | some fd => match sizeA P fd.type with
      | some (_ + 1) => some fd.offset
      | _ => none
    | none => none
  | _ => none
/-- An operation whose slot is not laid: what it is, and what is to be looked at. -/
noncomputable def virt (σ : Sg) (o : Oper) : Option (Vt × Option ((Env → AV) × Bool)) :=
  match o.guard with
  | some _ => none
  | none => match o.op with
    | .move x => match descO P σ x with
      | some d => some (d, none)
      | none => none
    | .nilCheck x => match descO P σ x with
      | some d => some (d, some (d.get, true))
      | none => none
    | .fieldAddr t x f => match descO P σ x, fieldOff P t f with
      | some (.val b g), some off => some (.addr b g off, some (g, false))
      | some (.addr b g off'), some off => some (.addr b g (off' + off), some (fun e => shiftV off' (g e), false))
      | _, _ => none
    | _ => none
noncomputable def lookX (c : Option ((Env → AV) × Bool)) (y : XE) : XE :=
  match c with
  | none => y
  | some (g, true) => fun r e h n k => okNil (g e) (y r e h n k)
  | some (g, false) => fun r e h n k => onPtr (g e) fun _ _ => y r e h n k
/-- Is a slot none of these? -/
def free_ (d : Nat) : List (Nat × Vt) → Bool
  | [] => true
  | p :: l => !Nat.beq p.1 d && free_ d l
/-- L: what is known of slots that nobody writes. -/
noncomputable def opersX (N : Nat) (L : List (Nat × Vt)) (ops : Array Oper) : Sg → List Oper → Option XE
  | _, [] => some fun _ e h n k => k e h n
  | σ, o :: l => match o.dst with
    | some d => if bit σ.V d then (match virt P σ o with
      | some (vt, c) => if Nat.blt d N && Nat.blt d 256 && free_ d L then (match opersX N L ops ⟨σ.V, (d, vt) :: dropT d σ.l⟩ l with
        | some y => some (lookX c y)
        | none => none) else none
      | none => none) else (match opersX N L ops ⟨σ.V, dropT d σ.l⟩ l with
      | some y => operX P N σ ops o y
      | none => none)
    | none => match opersX N L ops σ l with
      | some y => operX P N σ ops o y
      | none => none

/-! ### regions that draw their order -/
/-- What is still to be read again: in this heap, behind so many that turn something. -/
abbrev Pend := H → Nat → Nat → Bool
abbrev XD := RecT → Env → H → Nat → Pend → (Env → H → Nat → Pend → Bool) → Bool
/-- Is a value this one? -/
noncomputable def sameK (x y : AV) : Bool :=
  AV.rec (motive_1 := fun _ => Bool) (motive_2 := fun _ => Unit) (fun _ => AV.beq x y) (fun k a => onInt y fun k' b => ite' (kEq k k') (onNat a (fun m => onNat b (fun n => Nat.beq m n) (AV.beq x y)) (AV.beq x y)) false) (fun _ => AV.beq x y) (AV.beq x y) (fun b o => onPtr y fun c p => ite' (Nat.beq b c) (Nat.beq o p) false) (AV.beq x y) (fun _ _ _ _ => AV.beq x y) (fun _ _ _ _ => AV.beq x y) (AV.beq x y) (fun _ => AV.beq x y) (fun _ _ _ _ _ => AV.beq x y) (AV.beq x y) (fun _ _ _ => AV.beq x y) (AV.beq x y) (fun _ _ => AV.beq x y) (fun _ _ => AV.beq x y) () (fun _ _ _ _ => ()) x
noncomputable def pendK (p q : Pend) : Pend := fun h n j => ite' (p h n j) (q h n j) false
/-- An operation in a region that draws its order: a read is to be read again till its last stage. -/
noncomputable def doD (last : Nat) (x : Xo) (put : Env → AV → Env) : Option XD :=
  match x with
  | .mov g => some fun _ e h n p k => k (put e (g e)) h n p
  | .pur f => some fun _ e h n p k => f e fun v => k (put e v) h n p
  | .rd f => some fun _ e h n p k => f e h n fun v => k (put e v) h n (pendK (fun h' n' j => ite' (Nat.ble j last) (f e h' n' fun v' => sameK v' v) true) p)
  | .alc f => some fun _ e h n p k => f e n fun v o => pushK o h n fun h' n' => k (put e v) h' n' p
  | .eff f => some fun r e h n p k => f r e h n fun v h' n' => k (put e v) h' n' p
  | .bad => none
noncomputable def guardD (g : Gd) (put : Env → AV → Env) (x : XD) : Option XD :=
  match g with
  | .free => some x
  | .on gg want => some fun r e h n p k => onGuard (gg e) want (x r e h n p k) (k (put e undefA) h n p)
  | .bad => none
noncomputable def operD (N V : Nat) (L : List (Nat × Vt)) (ops : Array Oper) (last : Nat) (o : Oper) : Option XD :=
  if laid V o.dst then (match putG N o.dst with
  | some put => match doD last (compOp P ⟨V, L⟩ o.op) put with
    | some x => guardD (guardG P ⟨V, L⟩ ops o) put x
    | none => none
  | none => none) else none
noncomputable def thenD (x y : XD) : XD := fun r e h n p k => x r e h n p fun e h n p => y r e h n p k
/-- The operations of a stage. -/
noncomputable def stageD (N V : Nat) (L : List (Nat × Vt)) (ops : Array Oper) (bf es : List Nat) : List Nat → Option XD
  | [] => some fun _ e h n p k => k e h n p
  | i :: l => match ops[i]? with
    | some o => match operD P N V L ops (firstE bf es i) o with
      | some x => match stageD N V L ops bf es l with
        | some y => some (thenD x y)
        | none => none
      | none => none
    | none => none
/-- Behind a stage: all is read again. -/
noncomputable def checkD (j : Nat) : XD := fun _ e h n p k => ite' (p h n j) (k e h n p) false
noncomputable def stagesD (N V : Nat) (L : List (Nat × Vt)) (ops : Array Oper) (bf es : List Nat) : List Nat → Nat → Option XD
  | rest, j => match stageD P N V L ops bf es (stageOf bf es j ops.toList 0) with
    | some x => match rest with
      | [] => some (thenD x (checkD j))
      | e :: rest' => match ops[e]? with
        | some o => match operD P N V L ops 0 o with
          | some y => match stagesD N V L ops bf es rest' (j + 1) with
            | some z => some (thenD x (thenD (checkD j) (thenD y z)))
            | none => none
          | none => none
        | none => none
    | none => none
noncomputable def drawX (N V : Nat) (L : List (Nat × Vt)) (ops : Array Oper) : Option XE :=
  match stagesD P N V L ops (befores ops) (effsOf ops.toList 0) (effsOf ops.toList 0) 0 with
  | some x => some fun r e h n k => x r e h n (fun _ _ _ => true) fun e h n _ => k e h n
  | none => none

/-! ### code -/
noncomputable def onNormal (ex : AExit) (x y : Bool) : Bool := AExit.rec (motive := fun _ => Bool) x (fun _ => y) (fun _ => y) y ex
noncomputable def onExit (ex : AExit) (f : Nat → Bool) (y : Bool) : Bool := AExit.rec (motive := fun _ => Bool) y f (fun _ => y) y ex
noncomputable def onGoto (ex : AExit) (f : Nat → Bool) (y : Bool) : Bool := AExit.rec (motive := fun _ => Bool) y (fun _ => y) f y ex
noncomputable def noGoto (ex : AExit) (y : Bool) : Bool := AExit.rec (motive := fun _ => Bool) y (fun _ => y) (fun _ => false) y ex
noncomputable def onRet (ex : AExit) (y : Bool) : Bool := AExit.rec (motive := fun _ => Bool) y (fun _ => false) (fun _ => false) y ex
noncomputable def seqX (x y : Cx) : Cx := fun r F e h n K => x r F e h n fun ex e h n => onNormal ex (y r F e h n K) (K ex e h n)
noncomputable def condX (g : Env → AV) (x y : Cx) : Cx := fun r F e h n K => onBool (g e) (x r F e h n K) (y r F e h n K)
noncomputable def blockX (id : Nat) (x : Cx) : Cx := fun r F e h n K => x r F e h n fun ex e h n => onExit ex (fun i => ite' (Nat.beq i id) (K .normal e h n) (K ex e h n)) (K ex e h n)
noncomputable def loopX (x : Cx) : Cx := fun r F e h n K => Nat.rec (motive := fun _ => KE) (fun _ _ _ => false) (fun _ ih e h n => x r F e h n fun ex e h n => onNormal ex (ih e h n) (noGoto ex (K ex e h n))) F e h n
noncomputable def regX (x : XE) : Cx := fun r _ e h n K => x r e h n (K .normal)
noncomputable def scopeX (x : Cx) : Cx := fun r F e h n K => x r F e h n fun ex e h n => noGoto ex (K ex e h n)
/-- A scope, with jumps to one label in it. -/
noncomputable def jumpX (l : Nat) (x y : Cx) : Cx := fun r F e h n K => x r F e h n fun ex e h n => onGoto ex (fun l' => ite' (Nat.beq l' l) (y r F e h n fun ex e h n => noGoto ex (K ex e h n)) false) (K ex e h n)
/-- The label that a code jumps to. -/
noncomputable def jumpOf : Code → Option Nat
  | .seq a b => match jumpOf a with
    | some l => some l
    | none => jumpOf b
  | .cond _ a b => match jumpOf a with
    | some l => some l
    | none => jumpOf b
  | .block _ a => jumpOf a
  | .goto l => some l
  | _ => none
/-- (the body and what stands behind a label are turned apart) -/
noncomputable def compC (N V : Nat) (L : List (Nat × Vt)) (ov : Nat → Option Cx) : Code → Option Cx
  | .skip => some fun _ _ e h n K => K .normal e h n
  | .label _ => some fun _ _ e h n K => K .normal e h n
  | .region id ops draw => match ov id with
    | some x => some x
    | none => match (if draw then drawX P N V L ops else opersX P N L ops ⟨V, L⟩ ops.toList) with
      | some x => some (regX x)
      | none => none
  | .seq a b => match compC N V L ov a with
    | some x => match compC N V L ov b with
      | some y => some (seqX x y)
      | none => none
    | none => none
  | .cond c a b => match opG P ⟨V, L⟩ c with
    | some g => match compC N V L ov a with
      | some x => match compC N V L ov b with
        | some y => some (condX g x y)
        | none => none
      | none => none
    | none => none
  | .block id a => match compC N V L ov a with
    | some x => some (blockX id x)
    | none => none
  | .loop a => match compC N V L ov a with
    | some x => some (loopX x)
    | none => none
  | .exit id => some fun _ _ e h n K => K (.exit id) e h n
  | .goto l => some fun _ _ e h n K => K (.goto l) e h n
  | .scope a => match compC N V L ov a with
    | some x => some (scopeX x)
    | none => none
  | .ret => some fun _ _ e h n K => K .ret e h n
  | .rangeFunc .. => none
  | .refuse _ => none
/-- A scope that may have jumps to one label. -/
noncomputable def compS (N V : Nat) (c : Code) : Option Cx :=
  match c with
  | .scope a => match jumpOf a with
    | some l => match findLabel a l with
      | some b => match compC P N V [] (fun _ => none) a with
        | some x => match compC P N V [] (fun _ => none) b with
          | some y => some (jumpX l x y)
          | none => none
        | none => none
      | none => none
    | none => compC P N V [] (fun _ => none) c
  | c => compC P N V [] (fun _ => none) c
/-- A function's code. -/
noncomputable def compB (N V : Nat) (c : Code) : Option Cx :=
  match c with
  | .seq a b => match compC P N V [] (fun _ => none) a with
    | some x => match compS P N V b with
      | some y => some (seqX x y)
      | none => none
    | none => none
  | c => compS P N V c

/-! ### functions -/
inductive Xf where
  | ok (c : Cx) (res : Env → H → (AV → Bool) → Bool)
  | bad
/-- What a call is handed goes into the first slots. -/
noncomputable def sets : List (Env → AV → Env) :=
  (List.range 24).map fun t => (acE t).set
noncomputable def iniK (args : List AV) (f : Env → Bool) : Bool :=
  List.rec (motive := fun _ => List (Env → AV → Env) → Env → Bool) (fun _ e => f e) (fun v _ ih S e => List.rec (motive := fun _ => Bool) false (fun s S' _ => ih S' (s e v)) S) args sets env0
noncomputable def resG (V : Nat) : ResultVar → Option (Env → H → (AV → Bool) → Bool)
  | .tmp t => match opG P ⟨V, []⟩ (.tmp t) with
    | some g => some fun e _ k => k (g e)
    | none => none
  | .cell a t => match isAggA P t, sizeA P t, opG P ⟨V, []⟩ (.tmp a) with
    | some false, _, some g => some fun e h k => onPtr (g e) fun b o => onB b h fun c _ => onCells c fun cs => nthK k o cs
    | some true, some n, some g => some fun e h k => onPtr (g e) fun b o => onB b h fun c _ => onCells c fun cs => dropK (fun l => takeK n l fun r => k (.agg r)) o cs
    | _, _, _ => none
noncomputable def ressG (V : Nat) : List ResultVar → Option (Env → H → (List AV → Bool) → Bool)
  | [] => some fun _ _ k => k []
  | r :: rs => match resG P V r with
    | some x => match ressG V rs with
      | some y => some fun e h k => x e h fun v => y e h fun vs => k (v :: vs)
      | none => none
    | none => none
noncomputable def oneK (l : List AV) (k : AV → Bool) : Bool := List.rec (motive := fun _ => Bool) (k (.tuple [])) (fun v t _ => List.rec (motive := fun _ => Bool) (k v) (fun _ _ _ => k (.tuple l)) t) l
/-- The slots that need not be laid: a heuristic. -/
noncomputable def vOps : List Oper → Nat → Nat
  | [], V => V
  | o :: l, V => match o.guard, o.dst, o.op with
    | none, some d, .move _ => vOps l (Nat.lor V (Nat.pow 2 d))
    | none, some d, .nilCheck _ => vOps l (Nat.lor V (Nat.pow 2 d))
    | none, some d, .fieldAddr .. => vOps l (Nat.lor V (Nat.pow 2 d))
    | _, _, _ => vOps l V
noncomputable def vMask : Code → Nat → Nat
  | .region _ ops false, V => vOps ops.toList V
  | .seq a b, V => vMask b (vMask a V)
  | .cond _ a b, V => vMask b (vMask a V)
  | .block _ a, V => vMask a V
  | .loop a, V => vMask a V
  | .scope a, V => vMask a V
  | _, V => V
noncomputable def compV (fn : Func) (c : Code) (V : Nat) : Xf :=
  match compB P fn.ntmps V c with
  | some x => match ressG P V fn.results.toList with
    | some y => if Nat.ble fn.ntmps 256 then .ok x (fun e h k => y e h fun vs => oneK vs k) else .bad
    | none => .bad
  | none => .bad
noncomputable def compF (f : FuncId) : Xf :=
  match P.funcs[f]? with
  | some fn => match fn.body with
    | some c => match compV P fn c (vMask c 0) with
      | .ok x y => .ok x y
      | .bad => compV P fn c 0
    | none => .bad
  | none => .bad
noncomputable def goF (F : Nat) (x : Xf) (r : RecT) (args : List AV) (h : H) (n : Nat) (k : KV) : Bool :=
  Xf.rec (motive := fun _ => Bool) (fun c res => iniK args fun e => c r F e h n fun ex e h n => onRet ex (res e h fun v => k v h n)) false x
/-- M says which functions may be run. -/
noncomputable def runF (M F : Nat) (d : Nat) : RecT := Nat.rec (motive := fun _ => RecT) (fun _ _ _ _ _ => false) (fun _ ih f args h n k => ite' (bit M f) (goF F (compF P f) ih args h n k) false) d
end
end Go.Mini.Fast
namespace Go.Mini.Fast
open Go Go.IntWalk

theorem no {p : Prop} (h : false = true) : p := absurd h Bool.false_ne_true

section
variable {v : AV} {f : Nat → Nat → Bool}
theorem onPtr_t (h : onPtr v f = true) : ∃ b o, v = .ptr b o ∧ f b o = true := by
  cases v <;> first | exact ⟨_, _, rfl, h⟩ | exact no h
theorem onInt_t {f : IntKind → Int → Bool} (h : onInt v f = true) : ∃ k n, v = .int k n ∧ f k n = true := by
  cases v <;> first | exact ⟨_, _, rfl, h⟩ | exact no h
theorem onBool_t {x y : Bool} (h : onBool v x y = true) : (v = .bool true ∧ x = true) ∨ (v = .bool false ∧ y = true) := by
  cases v with
  | bool b => cases b <;> first | exact .inl ⟨rfl, h⟩ | exact .inr ⟨rfl, h⟩
  | _ => exact no h
theorem onAgg_t {f : List AV → Bool} (h : onAgg v f = true) : ∃ l, v = .agg l ∧ f l = true := by
  cases v <;> first | exact ⟨_, rfl, h⟩ | exact no h
theorem onTup_t {f : List AV → Bool} (h : onTup v f = true) : ∃ l, v = .tuple l ∧ f l = true := by
  cases v <;> first | exact ⟨_, rfl, h⟩ | exact no h
theorem onMap_t {f : Nat → Bool} {n : Bool} (h : onMap v f n = true) : (∃ b, v = .map b ∧ f b = true) ∨ (v = .nilMap ∧ n = true) := by
  cases v <;> first | exact .inl ⟨_, rfl, h⟩ | exact .inr ⟨rfl, h⟩ | exact no h
theorem onIface_t {f : TypeId → AV → Bool} {n : Bool} (h : onIface v f n = true) : (∃ t x, v = .iface t x ∧ f t x = true) ∨ (v = .nilIface ∧ n = true) := by
  cases v <;> first | exact .inl ⟨_, _, rfl, h⟩ | exact .inr ⟨rfl, h⟩ | exact no h
theorem onFunc_t {f : Fn → List AV → List AV → Bool} (h : onFunc v f = true) : ∃ g a c, v = .func g a c ∧ f g a c = true := by
  cases v <;> first | exact ⟨_, _, _, rfl, h⟩ | exact no h
theorem onCell_t {x : Bool} {f : List AV → Bool} (h : onCell v x f = true) : (v.one = true ∧ v.cells = [v] ∧ x = true) ∨ ∃ l, v = .agg l ∧ f l = true := by
  cases v <;> first | exact .inl ⟨rfl, rfl, h⟩ | exact .inr ⟨_, rfl, h⟩ | exact no h
theorem cellsK_t {f : List AV → Bool} (h : cellsK v f = true) : f v.cells = true := by cases v <;> exact h
theorem onSome_t {α : Type} {x : Option α} {f : α → Bool} (h : onSome x f = true) : ∃ a, x = some a ∧ f a = true := by
  cases x <;> first | exact ⟨_, rfl, h⟩ | exact no h
theorem ite_t {b x y : Bool} (h : ite' b x y = true) : (b = true ∧ x = true) ∨ (b = false ∧ y = true) := by
  cases b <;> first | exact .inl ⟨rfl, h⟩ | exact .inr ⟨rfl, h⟩
theorem iff_t {b x : Bool} (h : ite' b x false = true) : b = true ∧ x = true := by
  cases b <;> first | exact ⟨rfl, h⟩ | exact no h
theorem onCells_t {o : Option AObj} {f : List AV → Bool} (h : onCells o f = true) : ∃ ro cs, o = some (.cells ro cs) ∧ f cs = true := by
  cases o with
  | none => exact no h
  | some o => cases o <;> first | exact ⟨_, _, rfl, h⟩ | exact no h
theorem onRW_t {o : Option AObj} {f : List AV → Bool} (h : onRW o f = true) : ∃ cs, o = some (.cells false cs) ∧ f cs = true := by
  cases o with
  | none => exact no h
  | some o => cases o with
    | cells ro cs => cases ro <;> first | exact ⟨_, rfl, h⟩ | exact no h
    | map a b c => exact no h
    | dead => exact no h
theorem onMapO_t {o : Option AObj} {f : List (AV × AV) → List Nat → Nat → Bool} (h : onMapO o f = true) : ∃ es bn ck, o = some (.map es bn ck) ∧ f es bn ck = true := by
  cases o with
  | none => exact no h
  | some o => cases o <;> first | exact ⟨_, _, _, rfl, h⟩ | exact no h
theorem nthK_t {f : AV → Bool} : ∀ {n : Nat} {l : List AV}, nthK f n l = true → ∃ v, l[n]? = some v ∧ f v = true
  | 0, [], h => no h
  | 0, x :: _, h => ⟨x, rfl, h⟩
  | _ + 1, [], h => no h
  | n + 1, _ :: t, h => by simpa using nthK_t (n := n) (l := t) h
theorem dropK_t {f : List AV → Bool} : ∀ {n : Nat} {l : List AV}, dropK f n l = true → n ≤ l.length ∧ f (l.drop n) = true
  | 0, l, h => ⟨Nat.zero_le _, by simpa using (show f l = true from h)⟩
  | _ + 1, [], h => no h
  | n + 1, _ :: t, h => by
    obtain ⟨h1, h2⟩ := dropK_t (n := n) (l := t) h
    exact ⟨by simpa using h1, by simpa using h2⟩
theorem takeK_t : ∀ {n : Nat} {l : List AV} {f : List AV → Bool}, takeK n l f = true → ∃ r, takeN n l = some r ∧ f r = true
  | 0, l, f, h => ⟨[], rfl, h⟩
  | _ + 1, [], _, h => no h
  | n + 1, x :: t, f, h => by
    obtain ⟨r, h1, h2⟩ := takeK_t (n := n) (l := t) (f := fun r => f (x :: r)) h
    exact ⟨x :: r, by simp [takeN, h1], h2⟩
theorem overK_t : ∀ {vs l : List AV} {f : List AV → Bool}, overK vs l f = true → ∃ r, splice 0 vs l = some r ∧ f r = true
  | [], l, f, h => ⟨l, by cases l <;> rfl, h⟩
  | _ :: _, [], _, h => no h
  | v :: vs, _ :: t, f, h => by
    obtain ⟨r, h1, h2⟩ := overK_t (vs := vs) (l := t) (f := fun r => f (v :: r)) h
    exact ⟨v :: r, by simp [splice, h1], h2⟩
theorem spliceK_t {vs : List AV} : ∀ {n : Nat} {l : List AV} {f : List AV → Bool}, spliceK vs n l f = true → ∃ r, splice n vs l = some r ∧ f r = true
  | 0, l, f, h => overK_t (vs := vs) (l := l) (f := f) h
  | _ + 1, [], _, h => no h
  | n + 1, x :: t, f, h => by
    obtain ⟨r, h1, h2⟩ := spliceK_t (n := n) (l := t) (f := fun r => f (x :: r)) h
    exact ⟨x :: r, by simp [splice, h1], h2⟩
theorem setK_t {v : AV} : ∀ {n : Nat} {l : List AV} {f : List AV → Bool}, setK v n l f = true → ∃ r, splice n [v] l = some r ∧ f r = true
  | 0, [], _, h => no h
  | 0, _ :: t, f, h => ⟨v :: t, by simp only [splice], h⟩
  | _ + 1, [], _, h => no h
  | n + 1, x :: t, f, h => by
    obtain ⟨r, h1, h2⟩ := setK_t (n := n) (l := t) (f := fun r => f (x :: r)) h
    exact ⟨x :: r, by simp [splice, h1], h2⟩
theorem kEq_t {a b : IntKind} (h : kEq a b = true) : a = b := by cases a <;> cases b <;> first | rfl | exact no h
theorem onNat_t {x : Int} {f : Nat → Bool} {g : Bool} (h : onNat x f g = true) : (∃ n, x = .ofNat n ∧ f n = true) ∨ g = true := by
  cases x <;> first | exact .inl ⟨_, rfl, h⟩ | exact .inr h
theorem force_t {x : Nat} {f : Nat → Bool} (h : force x f = true) : f x = true := h

/-! ### numbers -/
theorem blt_t {a b : Nat} (h : Nat.blt a b = true) : a < b := by rw [Nat.blt_eq] at h; exact h
theorem wrap_lim {k : IntKind} {n : Nat} (h : n < lim k) : k.wrap (.ofNat n) = .ofNat n := by
  cases k
  · exact i8_in _ (by have : n < 128 := h; constructor <;> simp only [Int.ofNat_eq_natCast] <;> omega)
  · exact i16_in _ (by have : n < 32768 := h; constructor <;> simp only [Int.ofNat_eq_natCast] <;> omega)
  · exact i32_in _ (by have : n < 2147483648 := h; constructor <;> simp only [Int.ofNat_eq_natCast] <;> omega)
  · exact i64_in _ (by have : n < 9223372036854775808 := h; constructor <;> simp only [Int.ofNat_eq_natCast] <;> omega)
  · exact u8_in _ (by have : n < 256 := h; constructor <;> simp only [Int.ofNat_eq_natCast] <;> omega)
  · exact u16_in _ (by have : n < 65536 := h; constructor <;> simp only [Int.ofNat_eq_natCast] <;> omega)
  · exact u32_in _ (by have : n < 4294967296 := h; constructor <;> simp only [Int.ofNat_eq_natCast] <;> omega)
  · exact u64_in _ (by have : n < 18446744073709551616 := h; constructor <;> simp only [Int.ofNat_eq_natCast] <;> omega)
theorem small_t {k : IntKind} {n : Nat} {f : AV → Bool} {g : Bool} (h : small k n f g = true) : (n < lim k ∧ f (.int k (.ofNat n)) = true) ∨ g = true := by
  rcases ite_t h with ⟨h1, h2⟩ | ⟨_, h2⟩
  · exact .inl ⟨blt_t h1, h2⟩
  · exact .inr h2
/-- What an operator on numbers is asked. -/
def IntOk (op : BinOp) (g : IntKind → Int → Int → (AV → Bool) → Bool) : Prop := ∀ k x y f, g k x y f = true → ∃ v, intOpA op k x y = some v ∧ f v = true
theorem addK_ok : IntOk .add addK := by
  intro k x y f h
  rcases onNat_t h with ⟨m, rfl, h⟩ | h
  · rcases onNat_t h with ⟨n, rfl, h⟩ | h
    · rcases small_t h with ⟨h1, h⟩ | h
      · exact ⟨_, rfl, by rw [show (Int.ofNat m + Int.ofNat n : Int) = Int.ofNat (Nat.add m n) from rfl, wrap_lim h1]; exact h⟩
      · exact onSome_t h
    · exact onSome_t h
  · exact onSome_t h
theorem subK_ok : IntOk .sub subK := by
  intro k x y f h
  rcases onNat_t h with ⟨m, rfl, h⟩ | h
  · rcases onNat_t h with ⟨n, rfl, h⟩ | h
    · rcases ite_t h with ⟨h0, h⟩ | ⟨_, h⟩
      · rcases small_t h with ⟨h1, h⟩ | h
        · refine ⟨_, rfl, ?_⟩
          have h0' := Nat.le_of_ble_eq_true h0
          rw [show (Int.ofNat m - Int.ofNat n : Int) = Int.ofNat (Nat.sub m n) from (Int.ofNat_sub h0').symm, wrap_lim h1]
          exact h
        · exact onSome_t h
      · exact onSome_t h
    · exact onSome_t h
  · exact onSome_t h
theorem mulK_ok : IntOk .mul mulK := by
  intro k x y f h
  rcases onNat_t h with ⟨m, rfl, h⟩ | h
  · rcases onNat_t h with ⟨n, rfl, h⟩ | h
    · rcases small_t h with ⟨h1, h⟩ | h
      · exact ⟨_, rfl, by rw [show (Int.ofNat m * Int.ofNat n : Int) = Int.ofNat (Nat.mul m n) from rfl, wrap_lim h1]; exact h⟩
      · exact onSome_t h
    · exact onSome_t h
  · exact onSome_t h
theorem cmpK_ok {op : BinOp} {nat : Nat → Nat → Bool} (hop : ∀ k m n, intOpA op k (.ofNat m) (.ofNat n) = some (.bool (nat m n))) : IntOk op (cmpK op nat) := by
  intro k x y f h
  rcases onNat_t h with ⟨m, rfl, h⟩ | h
  · rcases onNat_t h with ⟨n, rfl, h⟩ | h
    · refine ⟨_, hop k m n, ?_⟩
      rcases ite_t h with ⟨h0, h⟩ | ⟨h0, h⟩ <;> rw [h0] <;> exact h
    · exact onSome_t h
  · exact onSome_t h
theorem lim_bits (k : IntKind) : lim k ≤ 2 ^ k.bits := by cases k <;> decide
theorem bv_lim {k : IntKind} {n : Nat} (h : n < lim k) : (BitVec.ofInt k.bits (.ofNat n)).toNat = n := by
  have := lim_bits k
  have e : BitVec.ofInt k.bits (.ofNat n) = BitVec.ofNat k.bits n := by
    apply BitVec.eq_of_toNat_eq
    simp
  rw [e, BitVec.toNat_ofNat, Nat.mod_eq_of_lt (by omega)]
theorem land_lim {k : IntKind} {m n : Nat} (h : m < lim k) : m &&& n < lim k := Nat.lt_of_le_of_lt Nat.and_le_left h
theorem lim_pow (k : IntKind) : ∃ j, lim k = 2 ^ j := by cases k <;> first | exact ⟨7, by decide⟩ | exact ⟨8, by decide⟩ | exact ⟨15, by decide⟩ | exact ⟨16, by decide⟩ | exact ⟨31, by decide⟩ | exact ⟨32, by decide⟩ | exact ⟨63, by decide⟩ | exact ⟨64, by decide⟩
theorem lor_lim {k : IntKind} {m n : Nat} (h : m < lim k) (h' : n < lim k) : m ||| n < lim k := by
  obtain ⟨j, hj⟩ := lim_pow k
  rw [hj] at h h' ⊢
  exact Nat.or_lt_two_pow h h'
theorem andK_ok : IntOk .and andK := by
  intro k x y f h
  rcases onNat_t h with ⟨m, rfl, h⟩ | h
  · rcases onNat_t h with ⟨n, rfl, h⟩ | h
    · rcases ite_t h with ⟨h0, h⟩ | ⟨_, h⟩
      · rcases ite_t h with ⟨h1, h⟩ | ⟨_, h⟩
        · refine ⟨_, rfl, ?_⟩
          have e : bits .and k (.ofNat m) (.ofNat n) = .ofNat (m &&& n) := by
            unfold bits
            simp only [BitVec.toNat_and, bv_lim (blt_t h0), bv_lim (blt_t h1)]
            exact wrap_lim (land_lim (blt_t h0))
          rw [e]
          exact h
        · exact onSome_t h
      · exact onSome_t h
    · exact onSome_t h
  · exact onSome_t h
theorem orK_ok : IntOk .or orK := by
  intro k x y f h
  rcases onNat_t h with ⟨m, rfl, h⟩ | h
  · rcases onNat_t h with ⟨n, rfl, h⟩ | h
    · rcases ite_t h with ⟨h0, h⟩ | ⟨_, h⟩
      · rcases ite_t h with ⟨h1, h⟩ | ⟨_, h⟩
        · refine ⟨_, rfl, ?_⟩
          have e : bits .or k (.ofNat m) (.ofNat n) = .ofNat (m ||| n) := by
            unfold bits
            simp only [BitVec.toNat_or, bv_lim (blt_t h0), bv_lim (blt_t h1)]
            exact wrap_lim (lor_lim (blt_t h0) (blt_t h1))
          rw [e]
          exact h
        · exact onSome_t h
      · exact onSome_t h
    · exact onSome_t h
  · exact onSome_t h
theorem quoK_ok : IntOk .quo quoK := by
  intro k x y f h
  rcases onNat_t h with ⟨m, rfl, h⟩ | h
  · rcases onNat_t h with ⟨n, rfl, h⟩ | h
    · rcases ite_t h with ⟨h0, h⟩ | ⟨_, h⟩
      · rcases small_t h with ⟨h1, h⟩ | h
        · have hn := blt_t h0
          have e : intOpA .quo k (.ofNat m) (.ofNat n) = some (.int k (k.wrap ((Int.ofNat m).tdiv (Int.ofNat n)))) := by
            show (if Int.ofNat n = 0 then none else _) = _
            rw [if_neg (by simp only [Int.ofNat_eq_natCast]; omega)]
          refine ⟨_, e, ?_⟩
          rw [show ((Int.ofNat m).tdiv (Int.ofNat n) : Int) = Int.ofNat (Nat.div m n) from rfl, wrap_lim h1]
          exact h
        · exact onSome_t h
      · exact onSome_t h
    · exact onSome_t h
  · exact onSome_t h
theorem remK_ok : IntOk .rem remK := by
  intro k x y f h
  rcases onNat_t h with ⟨m, rfl, h⟩ | h
  · rcases onNat_t h with ⟨n, rfl, h⟩ | h
    · rcases ite_t h with ⟨h0, h⟩ | ⟨_, h⟩
      · have hn := blt_t h0
        have e : intOpA .rem k (.ofNat m) (.ofNat n) = some (.int k ((Int.ofNat m).tmod (Int.ofNat n))) := by
          show (if Int.ofNat n = 0 then none else _) = _
          rw [if_neg (by simp only [Int.ofNat_eq_natCast]; omega)]
        exact ⟨_, e, h⟩
      · exact onSome_t h
    · exact onSome_t h
  · exact onSome_t h
def ShOk (op : BinOp) (g : IntKind → Int → Int → (AV → Bool) → Bool) : Prop := ∀ k x y f, g k x y f = true → ∃ v, shiftA op k x y = some v ∧ f v = true
theorem not_neg (n : Nat) : ¬ (Int.ofNat n < 0) := by simp only [Int.ofNat_eq_natCast]; omega
theorem shlK_ok : ShOk .shl shlK := by
  intro k x y f h
  rcases onNat_t h with ⟨m, rfl, h⟩ | h
  · rcases onNat_t h with ⟨n, rfl, h⟩ | h
    · rcases ite_t h with ⟨h0, h⟩ | ⟨_, h⟩
      · rcases small_t h with ⟨h1, h⟩ | h
        · have hn := Nat.le_of_ble_eq_true h0
          have e : shiftA .shl k (.ofNat m) (.ofNat n) = some (.int k (k.wrap (Int.ofNat m * 2 ^ (min (Int.ofNat n).toNat k.bits)))) := by
            unfold shiftA
            rw [if_neg (not_neg n)]
          refine ⟨_, e, ?_⟩
          rw [show (min (Int.ofNat n).toNat k.bits) = n from Nat.min_eq_left hn, show (Int.ofNat m * 2 ^ n : Int) = Int.ofNat (Nat.mul m (Nat.pow 2 n)) from by simp only [Int.ofNat_eq_natCast]; rw [show Nat.mul m (Nat.pow 2 n) = m * 2 ^ n from rfl, Int.natCast_mul, Int.natCast_pow]; rfl, wrap_lim h1]
          exact h
        · exact onSome_t h
      · exact onSome_t h
    · exact onSome_t h
  · exact onSome_t h
theorem shrK_ok : ShOk .shr shrK := by
  intro k x y f h
  rcases onNat_t h with ⟨m, rfl, h⟩ | h
  · rcases onNat_t h with ⟨n, rfl, h⟩ | h
    · rcases ite_t h with ⟨h0, h⟩ | ⟨_, h⟩
      · have hn := Nat.le_of_ble_eq_true h0
        have e : shiftA .shr k (.ofNat m) (.ofNat n) = some (.int k ((Int.ofNat m).fdiv (2 ^ (min (Int.ofNat n).toNat k.bits)))) := by
          unfold shiftA
          rw [if_neg (not_neg n)]
        refine ⟨_, e, ?_⟩
        rw [show (min (Int.ofNat n).toNat k.bits) = n from Nat.min_eq_left hn, show ((Int.ofNat m).fdiv (2 ^ n) : Int) = Int.ofNat (Nat.div m (Nat.pow 2 n)) from by
          simp only [Int.ofNat_eq_natCast]
          rw [Int.fdiv_eq_ediv_of_nonneg _ (by exact Int.pow_nonneg (by decide)), show Nat.div m (Nat.pow 2 n) = m / 2 ^ n from rfl, Int.natCast_ediv, Int.natCast_pow]; rfl]
        exact h
      · exact onSome_t h
    · exact onSome_t h
  · exact onSome_t h
theorem beq_nat (m n : Nat) : (Int.ofNat m == Int.ofNat n) = Nat.beq m n := by
  rw [Bool.eq_iff_iff, beq_iff_eq, Nat.beq_eq]
  simp only [Int.ofNat_eq_natCast]; omega
theorem binI_ok (op : BinOp) : IntOk op (binI op) := by
  cases op <;> first
    | exact addK_ok
    | exact subK_ok
    | exact mulK_ok
    | exact quoK_ok
    | exact remK_ok
    | exact andK_ok
    | exact orK_ok
    | exact fun k x y f h => onSome_t h
    | (refine cmpK_ok fun k m n => ?_
       simp only [intOpA, Option.some.injEq, AV.bool.injEq]
       first
         | exact beq_nat m n
         | (rw [bne, beq_nat]; cases Nat.beq m n <;> rfl)
         | (rw [Bool.eq_iff_iff, decide_eq_true_eq]; first | rw [Nat.blt_eq] | rw [Nat.ble_eq]
            simp only [Int.ofNat_eq_natCast]; omega))
end
end Go.Mini.Fast
namespace Go.Mini.Fast
open Go

/-! ### places in trees -/
/-- Places 0 .. n-1 that do not meet. -/
def LL {α β : Type} (n : Nat) (a : Nat → Ac α β) : Prop := ∀ i j, i < n → j < n → ∀ x v, (a i).get ((a j).set x v) = if i = j then v else (a i).get x
theorem comp_get {α β γ : Type} (x : Ac α β) (y : Ac β γ) (a : α) : (x.comp y).get a = y.get (x.get a) := by cases x; cases y; rfl
theorem comp_set {α β γ : Type} (x : Ac α β) (y : Ac β γ) (a : α) (v : γ) : (x.comp y).set a v = x.set a (y.set (x.get a) v) := by cases x; cases y; rfl
theorem lt16 {i : Nat} (h : i < 16) : i = 0 ∨ i = 1 ∨ i = 2 ∨ i = 3 ∨ i = 4 ∨ i = 5 ∨ i = 6 ∨ i = 7 ∨ i = 8 ∨ i = 9 ∨ i = 10 ∨ i = 11 ∨ i = 12 ∨ i = 13 ∨ i = 14 ∨ i = 15 := by omega
theorem LL16 {α : Type} : LL 16 (fun i => (ac16 i : Ac (N16 α) α)) := by
  intro i j hi hj x v
  cases x
  rcases lt16 hi with rfl | rfl | rfl | rfl | rfl | rfl | rfl | rfl | rfl | rfl | rfl | rfl | rfl | rfl | rfl | rfl <;>
    rcases lt16 hj with rfl | rfl | rfl | rfl | rfl | rfl | rfl | rfl | rfl | rfl | rfl | rfl | rfl | rfl | rfl | rfl <;> rfl
theorem LL.comp {α β γ : Type} {n m : Nat} {a : Nat → Ac α β} {b : Nat → Ac β γ} (ha : LL n a) (hb : LL m b) (hm : 0 < m) : LL (n * m) (fun t => (a (t / m)).comp (b (t % m))) := by
  intro i j hi hj x v
  simp only [comp_get, comp_set]
  have h1 : i / m < n := Nat.div_lt_of_lt_mul (by rw [Nat.mul_comm]; exact hi)
  have h2 : j / m < n := Nat.div_lt_of_lt_mul (by rw [Nat.mul_comm]; exact hj)
  rw [ha _ _ h1 h2]
  by_cases he : i / m = j / m
  · rw [if_pos he, hb _ _ (Nat.mod_lt _ hm) (Nat.mod_lt _ hm)]
    by_cases hr : i % m = j % m
    · have : i = j := by rw [← Nat.div_add_mod i m, ← Nat.div_add_mod j m, he, hr]
      rw [if_pos hr, if_pos this]
    · rw [if_neg hr, if_neg (fun e => hr (by rw [e])), he]
  · rw [if_neg he, if_neg (fun e => he (by rw [e]))]
theorem LLE : LL 256 acE := LL.comp (n := 16) (m := 16) LL16 LL16 (by decide)
theorem LL3 : LL 256 ac3 := LL.comp (n := 16) (m := 16) LL16 LL16 (by decide)
theorem LL2 : LL 4096 ac2 := LL.comp (n := 256) (m := 16) LL3 LL16 (by decide)
theorem LLH : LL 65536 acH := LL.comp (n := 4096) (m := 16) LL2 LL16 (by decide)

/-! ### the heap -/
theorem acB_lt {b : Nat} (h : b < 65536) : acB b = acH b := by
  have : Nat.blt b Hmax = true := by rw [Nat.blt_eq]; exact h
  unfold acB
  rw [this]
theorem acB_ge {b : Nat} (h : ¬ b < 65536) (x : H) : (acB b).get x = none := by
  have : Nat.blt b Hmax = false := by
    cases hh : Nat.blt b Hmax with
    | false => rfl
    | true => exact absurd (by rw [Nat.blt_eq] at hh; exact hh) h
  unfold acB
  rw [this]
  rfl
theorem getH_lt {b : Nat} {x : H} {o : AObj} (h : (acB b).get x = some o) : b < 65536 := by
  by_cases hb : b < 65536
  · exact hb
  · rw [acB_ge hb] at h; cases h
/-- What is said of a heap is so of a state. -/
structure HR (h : H) (n : Nat) (s : AS) : Prop where
  nx : s.nx = n
  get : ∀ b o, (acB b).get h = some o → s.get b = some o
theorem getH_set {b c : Nat} (hb : b < 65536) (x : H) (o : Option AObj) : (acB c).get ((acB b).set x o) = if c = b then o else (acB c).get x := by
  by_cases hc : c < 65536
  · rw [acB_lt hb, acB_lt hc, LLH _ _ hc hb]
  · rw [acB_ge hc, acB_ge hc, if_neg (fun (e : c = b) => hc (by rw [e]; exact hb))]
section
variable {h : H} {n : Nat} {s : AS}
theorem HR.set (R : HR h n s) {b : Nat} {o : AObj} (ho : (acB b).get h = some o) (o' : AObj) : HR ((acB b).set h (some o')) n (s.set b o') := by
  refine ⟨R.nx, fun c oc hc => ?_⟩
  rw [getH_set (getH_lt ho)] at hc
  rw [AS.get_set]
  split at hc
  · rename_i e
    subst e
    rw [if_pos rfl, R.get _ _ ho]
    exact hc
  · rename_i e
    rw [if_neg e]
    exact R.get _ _ hc
theorem HR.push (R : HR h n s) (hn : n < 65536) (o : AObj) : HR ((acB n).set h (some o)) (n + 1) (s.push o) := by
  refine ⟨by rw [AS.nx_push, R.nx], fun c oc hc => ?_⟩
  rw [getH_set hn] at hc
  rw [AS.get_push, R.nx]
  split at hc
  · rename_i e
    rw [if_pos e.symm]
    exact hc
  · rename_i e
    rw [if_neg (fun x => e x.symm)]
    exact R.get _ _ hc
theorem HR.congr (R : HR h n s) {s' : AS} (h1 : ∀ b, s'.get b = s.get b) (h2 : s'.nx = s.nx) : HR h n s' := ⟨by rw [h2, R.nx], fun b o hb => by rw [h1]; exact R.get b o hb⟩
theorem onB_t {b : Nat} {f : Option AObj → (Option AObj → H) → Bool} (hh : onB b h f = true) : f ((acB b).get h) ((acB b).set h) = true := by
  unfold onB at hh
  cases hb : acB b with
  | mk g st => rw [hb] at hh; exact hh
theorem pushK_t {o : AObj} {k : H → Nat → Bool} (R : HR h n s) (hh : pushK o h n k = true) : ∃ h', HR h' (n + 1) (s.push o) ∧ k h' (n + 1) = true := by
  unfold pushK at hh
  obtain ⟨h1, h2⟩ := iff_t hh
  have hn : n < 65536 := blt_t h1
  exact ⟨_, R.push hn o, force_t (onB_t h2)⟩
end

/-! ### the slots -/
/-- An entry hangs on its base alone. -/
def Vt.raw : Vt → Env → AV
  | .val _ g => g
  | .addr _ g _ => g
def WB (d : Vt) : Prop := ∀ (e : Env) (v : AV) (t : Nat), t < 256 → t ≠ d.base → d.raw ((acE t).set e v) = d.raw e
theorem WB.get {d : Vt} (h : WB d) {e : Env} {v : AV} {t : Nat} (h1 : t < 256) (h2 : t ≠ d.base) : d.get ((acE t).set e v) = d.get e := by
  have := h e v t h1 h2
  cases d with
  | val b g => exact this
  | addr b g off =>
    show shiftV off (g _) = shiftV off (g _)
    rw [show g ((acE t).set e v) = g e from this]
structure ER (σ : Sg) (N : Nat) (e : Env) (ts : List AV) : Prop where
  len : N ≤ ts.length
  laid : ∀ t, t < 256 → bit σ.V t = false → tget ts t = (acE t).get e
  virt : ∀ p ∈ σ.l, tget ts p.1 = p.2.get e ∧ WB p.2
  keys : ∀ p ∈ σ.l, p.1 < 256 ∧ bit σ.V p.1 = true
theorem tget_put {ts : List AV} {d t : Nat} {v : AV} (h : d < ts.length) : tget (ts.set d v) t = if t = d then v else tget ts t := by
  unfold tget
  rw [List.getD_eq_getElem?_getD, List.getD_eq_getElem?_getD, List.getElem?_set]
  by_cases ht : d = t
  · subst ht
    rw [if_pos rfl, if_pos rfl, if_pos h]
    rfl
  · rw [if_neg ht, if_neg (fun e => ht e.symm)]
theorem look_mem {t : Nat} {v : Vt} : ∀ {l : List (Nat × Vt)}, lookT t l = some v → (t, v) ∈ l
  | [], h => by cases h
  | x :: l, h => by
    unfold lookT at h
    split at h
    · rename_i hx
      have := Nat.eq_of_beq_eq_true hx
      simp only [Option.some.injEq] at h
      subst h this
      simp
    · exact List.mem_cons_of_mem _ (look_mem h)
theorem drop_mem {d : Nat} {p : Nat × Vt} : ∀ {l : List (Nat × Vt)}, p ∈ dropT d l → p ∈ l ∧ p.2.base ≠ d ∧ p.1 ≠ d
  | [], h => by cases h
  | x :: l, h => by
    unfold dropT at h
    split at h
    · obtain ⟨h1, h2⟩ := drop_mem h
      exact ⟨List.mem_cons_of_mem _ h1, h2⟩
    · rename_i hc
      simp only [Bool.or_eq_true, Nat.beq_eq, not_or] at hc
      rcases List.mem_cons.1 h with rfl | h
      · exact ⟨by simp, hc.1, hc.2⟩
      · obtain ⟨h1, h2⟩ := drop_mem h
        exact ⟨List.mem_cons_of_mem _ h1, h2⟩

section
variable {P : Program} {σ : Sg} {N : Nat} {e : Env} {ts : List AV}
theorem WB_const (f : Env → AV) (a : AV) (h : ∀ e, f e = a) : WB (.val 256 f) := fun e v t _ _ => by show f _ = f _; rw [h, h]
theorem acE_getset {t u : Nat} (ht : t < 256) (hu : u < 256) (e : Env) (v : AV) : (acE t).get ((acE u).set e v) = if t = u then v else (acE t).get e := LLE t u ht hu e v
theorem descO_ok (E : ER σ N e ts) {x : Operand} {d : Vt} (h : descO P σ x = some d) : evA P ts x = some (d.get e) ∧ WB d := by
  cases x with
  | tmp t =>
    simp only [descO] at h
    split at h
    · rename_i hlt
      have hlt' := blt_t hlt
      split at h
      · rename_i hb
        obtain ⟨h1, h2⟩ := E.virt _ (look_mem h)
        exact ⟨by simp only [evA]; rw [h1], h2⟩
      · rename_i hb
        have hb' : bit σ.V t = false := by simpa using hb
        have h1 := E.laid t hlt' hb'
        have hg := @acE_getset t
        cases ha : acE t with
        | mk g st =>
          rw [ha] at h h1
          simp only [Option.some.injEq] at h
          subst h
          refine ⟨by simp only [evA]; rw [h1]; rfl, fun e v u hu hne => ?_⟩
          have := hg hlt' hu e v
          rw [ha, if_neg (fun x => hne x.symm)] at this
          exact this
    · cases h
  | const v =>
    simp only [descO] at h
    split at h
    · rename_i a ha
      simp only [Option.some.injEq] at h
      subst h
      exact ⟨ha, WB_const _ a fun _ => rfl⟩
    · cases h
  | global g =>
    simp only [descO] at h
    split at h
    · rename_i hlt
      simp only [Option.some.injEq] at h
      subst h
      exact ⟨by simp only [evA, hlt, if_true]; rfl, WB_const _ (.ptr g 0) fun _ => rfl⟩
    · cases h
  | func f =>
    simp only [descO, Option.some.injEq] at h
    subst h
    exact ⟨rfl, WB_const _ (.func (.func f) [] []) fun _ => rfl⟩
theorem opG_ok (E : ER σ N e ts) {x : Operand} {g : Env → AV} (h : opG P σ x = some g) : evA P ts x = some (g e) := by
  unfold opG at h
  split at h
  · rename_i d hd
    have h1 := (descO_ok E hd).1
    cases d with
    | val b g' => simp only [Option.some.injEq] at h; subst h; exact h1
    | addr b g' off => simp only [Option.some.injEq] at h; subst h; exact h1
  · cases h
theorem opsG_ok (E : ER σ N e ts) : ∀ {xs : List Operand} {g : Env → List AV}, opsG P σ xs = some g → evL P ts xs = some (g e)
  | [], g, h => by simp only [opsG, Option.some.injEq] at h; subst h; rfl
  | x :: xs, g, h => by
    simp only [opsG] at h
    split at h
    · rename_i a ha
      split at h
      · rename_i as has
        simp only [Option.some.injEq] at h
        subst h
        simp only [evL, opG_ok E ha, opsG_ok E has]
      · cases h
    · cases h
/-- A laid slot is put. -/
theorem ER.put (E : ER σ N e ts) {d : Nat} (hN : d < N) (hd : d < 256) (_ : bit σ.V d = false) (v : AV) : ER ⟨σ.V, dropT d σ.l⟩ N ((acE d).set e v) (ts.set d v) := by
  have hl : d < ts.length := Nat.lt_of_lt_of_le hN E.len
  refine ⟨by rw [List.length_set]; exact E.len, fun t ht hbt => ?_, fun p hp => ?_, fun p hp => ?_⟩
  · rw [tget_put hl, acE_getset ht hd]
    split
    · rfl
    · exact E.laid t ht hbt
  · obtain ⟨h1, h2, h3⟩ := drop_mem hp
    obtain ⟨k1, k2⟩ := E.virt p h1
    exact ⟨by rw [tget_put hl, if_neg h3, k1, k2.get hd (fun x => h2 x.symm)], k2⟩
  · exact E.keys p (drop_mem hp).1
/-- A slot that is not laid is put. -/
theorem ER.virtual (E : ER σ N e ts) {d : Nat} (hN : d < N) (h256 : d < 256) (hb : bit σ.V d = true) {vt : Vt} (hw : WB vt) : ER ⟨σ.V, (d, vt) :: dropT d σ.l⟩ N e (ts.set d (vt.get e)) := by
  have hl : d < ts.length := Nat.lt_of_lt_of_le hN E.len
  refine ⟨by rw [List.length_set]; exact E.len, fun t ht hbt => ?_, fun p hp => ?_, fun p hp => ?_⟩
  · rw [tget_put hl, if_neg (fun x => by rw [x, hb] at hbt; cases hbt)]
    exact E.laid t ht hbt
  · rcases List.mem_cons.1 hp with rfl | hp
    · exact ⟨by rw [tget_put hl, if_pos rfl], hw⟩
    · obtain ⟨h1, h2, h3⟩ := drop_mem hp
      obtain ⟨k1, k2⟩ := E.virt p h1
      exact ⟨by rw [tget_put hl, if_neg h3, k1], k2⟩
  · rcases List.mem_cons.1 hp with rfl | hp
    · exact ⟨h256, hb⟩
    · exact E.keys p (drop_mem hp).1
theorem ER.drop (E : ER σ N e ts) {l : List (Nat × Vt)} (h : ∀ p ∈ l, p ∈ σ.l) : ER ⟨σ.V, l⟩ N e ts := ⟨E.len, E.laid, fun p hp => E.virt p (h p hp), fun p hp => E.keys p (h p hp)⟩

/-! ### the slots as a row -/
theorem flat_get {m : Nat} : ∀ {L : List (List AV)}, (∀ l ∈ L, l.length = m) → ∀ {i j : Nat}, j < m → L.flatten[i * m + j]? = (L[i]?).bind (·[j]?)
  | [], _, i, j, _ => by simp
  | l :: L, h, i, j, hj => by
    have hl := h l (by simp)
    rw [List.flatten_cons]
    cases i with
    | zero =>
      rw [Nat.zero_mul, Nat.zero_add, List.getElem?_append_left (by omega)]
      simp
    | succ i =>
      rw [List.getElem?_append_right (by rw [hl, Nat.succ_mul]; omega), hl, show (i + 1) * m + j - m = i * m + j from by rw [Nat.succ_mul]; omega, flat_get (fun l hl => h l (by simp [hl])) hj]
      simp
theorem lst1_flat {α : Type} (f : α → List AV) (n : N16 α) : lst1 f n = ((List.range 16).map fun i => f ((ac16 i).get n)).flatten := by
  cases n
  rw [show List.range 16 = [0, 1, 2, 3, 4, 5, 6, 7, 8, 9, 10, 11, 12, 13, 14, 15] from by decide]
  simp only [lst1, List.map_cons, List.map_nil, List.flatten_cons, List.flatten_nil, List.append_nil]
  rfl
theorem lst1_get {α : Type} {f : α → List AV} {m : Nat} (hf : ∀ x, (f x).length = m) (n : N16 α) {i j : Nat} (hi : i < 16) (hj : j < m) : (lst1 f n)[i * m + j]? = (f ((ac16 i).get n))[j]? := by
  rw [lst1_flat, flat_get (by simp only [List.mem_map]; rintro l ⟨x, _, rfl⟩; exact hf _) hj]
  rw [List.getElem?_map, List.getElem?_range hi]
  rfl
theorem lst1_len {α : Type} {f : α → List AV} {m : Nat} (hf : ∀ x, (f x).length = m) (n : N16 α) : (lst1 f n).length = 16 * m := by
  cases n
  simp only [lst1, List.length_append, hf]
  omega
theorem lst_get (e : Env) {t : Nat} (ht : t < 256) : tget (lst e) t = (acE t).get e := by
  have h1 : ∀ x : N16 AV, (lst1 (fun v => [v]) x).length = 16 := fun x => lst1_len (m := 1) (fun _ => rfl) x
  have h := lst1_get h1 e (i := t / 16) (j := t % 16) (by omega) (by omega)
  rw [show t / 16 * 16 + t % 16 = t from by omega] at h
  have h2 := lst1_get (f := fun v : AV => [v]) (m := 1) (fun _ => rfl) ((ac16 (t / 16)).get e) (i := t % 16) (j := 0) (by omega) (by omega)
  rw [show t % 16 * 1 + 0 = t % 16 from by omega] at h2
  unfold tget
  rw [List.getD_eq_getElem?_getD, show lst e = lst1 (lst1 fun v => [v]) e from rfl, h, h2]
  show _ = Ac.get ((ac16 (t / 16)).comp (ac16 (t % 16))) e
  rw [comp_get]
  rfl
theorem lay_other {t : Nat} (ht : t < 256) : ∀ {l : List (Nat × Vt)}, (∀ p ∈ l, p.1 < 256 ∧ p.1 ≠ t) → (acE t).get (lay l e) = (acE t).get e
  | [], _ => rfl
  | p :: l, h => by
    show (acE t).get ((acE p.1).set (lay l e) _) = _
    have := h p (by simp)
    rw [acE_getset ht this.1, if_neg (fun x => this.2 x.symm)]
    exact lay_other ht fun q hq => h q (by simp [hq])
theorem lay_same {t : Nat} {d : Vt} (ht : t < 256) : ∀ {l : List (Nat × Vt)}, (∀ p ∈ l, p.1 < 256) → lookT t l = some d → (acE t).get (lay l e) = d.get e
  | [], _, h => by cases h
  | p :: l, hl, h => by
    show (acE t).get ((acE p.1).set (lay l e) (p.2.get e)) = _
    rw [acE_getset ht (hl p (by simp))]
    unfold lookT at h
    split at h
    · rename_i hx
      simp only [Option.some.injEq] at h
      rw [if_pos (Nat.eq_of_beq_eq_true hx).symm, h]
    · rename_i hx
      rw [if_neg (fun x => hx (by rw [x]; exact Nat.beq_refl _))]
      exact lay_same ht (fun q hq => hl q (by simp [hq])) h
theorem lay_get (E : ER σ N e ts) {x : Operand} {g : Env → AV} (h : opG P σ x = some g) : evA P (lst (lay σ.l e)) x = evA P ts x := by
  cases x with
  | tmp t =>
    have hd : ∃ d, descO P σ (.tmp t) = some d := by
      unfold opG at h
      split at h
      · exact ⟨_, by assumption⟩
      · cases h
    obtain ⟨d, hd⟩ := hd
    simp only [descO] at hd
    split at hd
    · rename_i hlt
      have hlt' := blt_t hlt
      simp only [evA, Option.some.injEq]
      rw [lst_get _ hlt']
      split at hd
      · rename_i hb
        rw [lay_same hlt' (fun p hp => (E.keys p hp).1) hd, (E.virt _ (look_mem hd)).1]
      · rename_i hb
        have hb' : bit σ.V t = false := by simpa using hb
        rw [lay_other hlt' (fun p hp => ⟨(E.keys p hp).1, fun x => by have := (E.keys p hp).2; rw [x, hb'] at this; cases this⟩), E.laid t hlt' hb']
    · cases hd
  | const v => rfl
  | global g => rfl
  | func f => rfl
theorem opsOk_ok (E : ER σ N e ts) {op : Op} (h : opsOk P σ op = true) : ∀ x ∈ op.operands, evA P (lst (lay σ.l e)) x = evA P ts x := by
  have go : ∀ {xs : List Operand} {g : Env → List AV}, opsG P σ xs = some g → ∀ x ∈ xs, evA P (lst (lay σ.l e)) x = evA P ts x := by
    intro xs
    induction xs with
    | nil => intro g _ x hx; cases hx
    | cons y ys ih =>
      intro g hg x hx
      simp only [opsG] at hg
      split at hg
      · rename_i a ha
        split at hg
        · rename_i as has
          rcases List.mem_cons.1 hx with rfl | hx
          · exact lay_get E ha
          · exact ih has x hx
        · cases hg
      · cases hg
  intro x hx
  unfold opsOk at h
  split at h
  · rename_i g hg
    exact go hg x (by simpa using hx)
  · cases h
end
end Go.Mini.Fast
namespace Go.Mini.Fast
open Go

section
variable (P : Program)
def RecOk (r : RecT) : Prop := ∀ f args h n k, r f args h n k = true → ∀ s, HR h n s → ∃ v h' n' s', Sound P (.call f args s) ⟨.ret, [v], s'⟩ ∧ HR h' n' s' ∧ k v h' n' = true
def PurOk (ts : List AV) (op : Op) (f : (AV → Bool) → Bool) : Prop := ∀ k, f k = true → ∃ v, (∀ s, valA P ts s op = some v) ∧ k v = true
def RdOk (ts : List AV) (s : AS) (op : Op) (f : (AV → Bool) → Bool) : Prop := ∀ k, f k = true → ∃ v, valA P ts s op = some v ∧ k v = true
def AlcOk (ts : List AV) (n : Nat) (op : Op) (f : (AV → AObj → Bool) → Bool) : Prop := ∀ k, f k = true → ∃ v o, allocA P ts n op = some (v, o) ∧ k v o = true
def EffOk (ts : List AV) (s : AS) (op : Op) (f : KV → Bool) : Prop := ∀ k, f k = true → ∃ v h' n' s',
  (effA P ts s op = some (.val v s') ∨ ∃ g args, effA P ts s op = some (.enter g args) ∧ Sound P (.call g args s) ⟨.ret, [v], s'⟩) ∧ HR h' n' s' ∧ k v h' n' = true
def XoOk (σ : Sg) (N : Nat) (op : Op) : Xo → Prop
  | .mov g => kindOf op = .P ∧ ∀ e ts, ER σ N e ts → ∀ s, valA P ts s op = some (g e)
  | .pur f => kindOf op = .P ∧ ∀ e ts, ER σ N e ts → PurOk P ts op (f e)
  | .rd f => kindOf op = .R ∧ ∀ e ts h n s, ER σ N e ts → HR h n s → RdOk P ts s op (f e h n)
  | .alc f => kindOf op = .A ∧ ∀ e ts n, ER σ N e ts → AlcOk P ts n op (f e n)
  | .eff f => kindOf op = .E ∧ ∀ r e ts h n s, RecOk P r → ER σ N e ts → HR h n s → EffOk P ts s op (f r e h n)
  | .bad => True
end

section
variable {P : Program} {σ : Sg} {N : Nat} {e : Env} {ts : List AV} {h : H} {n : Nat} {s : AS}

/-! ### the slow ways -/
theorem slowP_ok {op : Op} (hk : kindOf op = .P) : XoOk P σ N op (slowP P σ op) := by
  unfold slowP
  split
  · rename_i ho
    refine ⟨hk, fun e ts E k hh => ?_⟩
    obtain ⟨v, h1, h2⟩ := onSome_t hh
    refine ⟨v, fun s => ?_, h2⟩
    rw [← valA_congr op (opsOk_ok E ho), valA_pure op hk s00]
    exact h1
  · trivial
theorem slowA_ok {op : Op} (hk : kindOf op = .A) : XoOk P σ N op (slowA P σ op) := by
  unfold slowA
  split
  · rename_i ho
    refine ⟨hk, fun e ts n E k hh => ?_⟩
    obtain ⟨⟨v, o⟩, h1, h2⟩ := onSome_t hh
    exact ⟨v, o, by rw [← allocA_congr n op (opsOk_ok E ho)]; exact h1, h2⟩
  · trivial
theorem asL_get : ∀ {l : List Nat} {b : Nat}, b ∈ l → ((acB b).get h).isSome = true → getB (asL h l) b = (acB b).get h
  | c :: l, b, hb, hs => by
    unfold asL
    by_cases hc : c = b
    · subst hc
      split
      · rename_i o ho
        simp only [getB, Nat.beq_refl, if_true]
        exact ho.symm
      · rename_i ho
        rw [ho] at hs; cases hs
    · have hb' : b ∈ l := by
        rcases List.mem_cons.1 hb with hx | hx
        · exact absurd hx.symm hc
        · exact hx
      split
      · simp only [getB]
        rw [if_neg (fun x => hc (Nat.eq_of_beq_eq_true x))]
        exact asL_get hb' hs
      · exact asL_get hb' hs
theorem slowRK_ok {op : Op} (hk : kindOf op = .R) (ho : opsOk P σ op = true) (E : ER σ N e ts) (R : HR h n s) : RdOk P ts s op (slowRK P σ op e h) := by
  intro k hh
  obtain ⟨l, h1, hh⟩ := onSome_t hh
  obtain ⟨h2, hh⟩ := iff_t hh
  obtain ⟨v, h3, h4⟩ := onSome_t hh
  refine ⟨v, ?_, h4⟩
  rw [← valA_congr op (opsOk_ok E ho), ← h3]
  refine valA_touch hk h1 fun b hb => ?_
  have hs := List.all_eq_true.1 h2 b hb
  show s.get b = getB (asL h l) b
  rw [asL_get hb hs]
  cases hg : (acB b).get h with
  | none => rw [hg] at hs; cases hs
  | some o => exact R.get b o hg
theorem slowR_ok {op : Op} (hk : kindOf op = .R) : XoOk P σ N op (slowR P σ op) := by
  unfold slowR
  split
  · rename_i ho
    exact ⟨hk, fun e ts h n s E R => slowRK_ok hk ho E R⟩
  · trivial

/-! ### parts -/
theorem lengthK_t : ∀ {l : List AV} {n : Nat}, lengthK l n = true → l.length = n
  | [], n, hh => by
    have : Nat.beq n 0 = true := hh
    rw [Nat.eq_of_beq_eq_true this]; rfl
  | _ :: l, 0, hh => no hh
  | _ :: l, n + 1, hh => by rw [List.length_cons, lengthK_t (l := l) (n := n) hh]
theorem onesK_t : ∀ {l : List AV} {n : Nat}, onesK l n = true → l.length = n ∧ l.all AV.one = true
  | [], n, hh => by
    have : Nat.beq n 0 = true := hh
    rw [Nat.eq_of_beq_eq_true this]; exact ⟨rfl, rfl⟩
  | v :: l, n, hh => by
    rcases onCell_t (v := v) hh with ⟨h1, _, h3⟩ | ⟨_, _, h3⟩
    · cases n with
      | zero => exact no h3
      | succ n =>
        obtain ⟨k1, k2⟩ := onesK_t (l := l) (n := n) h3
        exact ⟨by rw [List.length_cons, k1], by rw [List.all_cons, h1, k2]; rfl⟩
    · exact no h3
theorem putPart_t {size off : Nat} {v : AV} {cs : List AV} {f : List AV → Bool} (hh : putPart size off v cs f = true) : ∃ r, Nat.beq v.cells.length size = true ∧ splice off v.cells cs = some r ∧ f r = true := by
  have one : v.cells = [v] → ite' (Nat.beq size 1) (setK v off cs f) false = true → ∃ r, Nat.beq v.cells.length size = true ∧ splice off v.cells cs = some r ∧ f r = true := by
    intro hc hh
    obtain ⟨h1, h2⟩ := iff_t hh
    obtain ⟨r, h3, h4⟩ := setK_t h2
    rw [hc]
    refine ⟨r, ?_, h3, h4⟩
    rw [Nat.eq_of_beq_eq_true h1]
    rfl
  cases v with
  | agg vs =>
    obtain ⟨h1, h2⟩ := iff_t (show ite' (lengthK vs size) (spliceK vs off cs f) false = true from hh)
    obtain ⟨r, h3, h4⟩ := spliceK_t h2
    refine ⟨r, ?_, h3, h4⟩
    rw [show AV.cells (.agg vs) = vs from rfl, lengthK_t h1]
    exact Nat.beq_refl _
  | _ => exact one rfl hh
theorem fillG_ok {places : Nat → Option (Nat × Nat)} (E : ER σ N e ts) : ∀ {parts : List (Nat × Operand)} {g : Env → List AV → (List AV → Bool) → Bool}, fillG P σ places parts = some g → ∀ {cs : List AV} {f : List AV → Bool}, g e cs f = true →
    ∃ l r, evParts P ts parts = some l ∧ fillA places cs l = some r ∧ f r = true
  | [], g, hg, cs, f, hh => by
    simp only [fillG, Option.some.injEq] at hg
    subst hg
    exact ⟨[], cs, rfl, rfl, hh⟩
  | (i, x) :: parts, g, hg, cs, f, hh => by
    simp only [fillG] at hg
    split at hg
    · rename_i off size hp
      split at hg
      · rename_i gx hx
        split at hg
        · rename_i gr hr
          simp only [Option.some.injEq] at hg
          subst hg
          obtain ⟨r1, h1, h2, h3⟩ := putPart_t hh
          obtain ⟨l, r, k1, k2, k3⟩ := fillG_ok E hr h3
          refine ⟨(i, gx e) :: l, r, ?_, ?_, k3⟩
          · simp only [evParts, opG_ok E hx, k1]
          · simp only [fillA, hp, h1, if_true, h2, k2]
        · cases hg
      · cases hg
    · cases hg
theorem okNil_t {v : AV} {r : Bool} (hh : okNil v r = true) : r = true ∧ ∀ {x : Operand} (s : AS), evA P ts x = some v → valA P ts s (.nilCheck x) = some v := by
  cases v with
  | ptr b o => exact ⟨hh, fun s hx => by simp only [valA, hx]⟩
  | slice a b c d => exact ⟨hh, fun s hx => by simp only [valA, hx]⟩
  | osl a b c d => exact ⟨hh, fun s hx => by simp only [valA, hx]⟩
  | map b => exact ⟨hh, fun s hx => by simp only [valA, hx]⟩
  | iface t v => exact ⟨hh, fun s hx => by simp only [valA, hx]⟩
  | func f a c =>
    cases f with
    | func f => exact ⟨hh, fun s hx => by simp only [valA, hx]⟩
    | _ => exact no hh
  | _ => exact no hh
theorem is1_t {l : List AV} {b : Bool} (hh : is1 l false b = true) : Nat.beq l.length 1 = false ∧ b = true := by
  match l, hh with
  | [], hh => exact ⟨rfl, hh⟩
  | [_], hh => exact no hh
  | _ :: _ :: _, hh => exact ⟨rfl, hh⟩
theorem onSl_t {v : AV} {f : Nat → Nat → Nat → Bool} (hh : onSl v f = true) : ∃ b o n c, (v = .slice b o n c ∨ v = .osl b o n c) ∧ f b o n = true := by
  cases v <;> first | exact ⟨_, _, _, _, .inl rfl, hh⟩ | exact ⟨_, _, _, _, .inr rfl, hh⟩ | exact no hh
theorem lenK_t {v : AV} {k : AV → Bool} (hh : lenK v k = true) : ∃ m, sliceLen v = some m ∧ k (.int .i64 (.ofNat m)) = true := by
  cases v <;> first | exact ⟨_, rfl, hh⟩ | exact no hh
theorem slenK_t {v : AV} {k : Nat → Bool} (hh : slenK v k = true) : ∃ m, sliceLen v = some m ∧ k m = true := by
  cases v <;> first | exact ⟨_, rfl, hh⟩ | exact no hh
theorem intsK_t {g : IntKind → Int → Int → (AV → Bool) → Bool} {x y : AV} {f : AV → Bool} (hh : intsK g x y f = true) : ∃ k m n, x = .int k m ∧ y = .int k n ∧ g k m n f = true := by
  obtain ⟨k, m, rfl, hh⟩ := onInt_t (v := x) hh
  obtain ⟨k', n, rfl, hh⟩ := onInt_t (v := y) hh
  obtain ⟨h1, h2⟩ := iff_t hh
  have := kEq_t h1
  subst this
  exact ⟨k, m, n, rfl, rfl, h2⟩
theorem shiftK_t {g : IntKind → Int → Int → (AV → Bool) → Bool} {x y : AV} {f : AV → Bool} (hh : shiftK g x y f = true) : ∃ k m k' n, x = .int k m ∧ y = .int k' n ∧ g k m n f = true := by
  obtain ⟨k, m, rfl, hh⟩ := onInt_t (v := x) hh
  obtain ⟨k', n, rfl, hh⟩ := onInt_t (v := y) hh
  exact ⟨k, m, k', n, rfl, rfl, hh⟩

/-! ### two values: are they one? -/
/-- Neither numbers, nor texts, nor two nil interfaces, nor aggregates. -/
def Good2 (P : Program) (x y : AV) : Prop := (∀ t, guardA P t x y = true) ∧ nilBoth x y = false ∧ (∀ k n, x ≠ .int k n) ∧ (∀ b, x ≠ .str b)
theorem valEq {t yt : TypeId} {x y : Operand} {a b : AV} {r : Bool} (ha : evA P ts x = some a) (hb : evA P ts y = some b) (hi : ∀ k n, a ≠ .int k n) (hs : ∀ c, a ≠ .str c) (he : eqlO P s t x y a b = some r) :
    valA P ts s (.binOp .eql t x y yt) = some (.bool r) ∧ valA P ts s (.binOp .neq t x y yt) = some (.bool !r) := by
  constructor
  · simp only [valA, ha, hb]
    split
    · exact absurd rfl (hi _ _)
    · exact absurd rfl (hs _)
    · rw [he]
  · simp only [valA, ha, hb]
    split
    · exact absurd rfl (hi _ _)
    · exact absurd rfl (hs _)
    · rw [he]
theorem eqlO_of {t : TypeId} {x y : Operand} {a b : AV} (g : Good2 P a b) : eqlO P s t x y a b = eqA P s 8 t a b := by
  unfold eqlO
  rw [g.2.1, Bool.false_and, if_neg (by simp), eqlA, if_pos (g.1 t)]
theorem boolEq_t {x y : AV} {k : Bool → Bool} (hh : boolEq x y k = true) : ∃ r, eqBool x y = some r ∧ k r = true ∧ Good2 P x y := by
  cases x <;> first | exact no hh | skip
  cases y <;> first | exact no hh | skip
  rename_i a b
  refine ⟨a == b, rfl, ?_, fun _ => rfl, rfl, nofun, nofun⟩
  cases a <;> cases b <;> exact hh
theorem sliEq_t {x y : AV} {k : Bool → Bool} (hh : sliEq x y k = true) : ∃ r, eqSli x y = some r ∧ k r = true ∧ Good2 P x y := by
  cases x <;> first | exact no hh | skip
  all_goals cases y <;> first | exact no hh | exact ⟨_, rfl, hh, fun _ => rfl, rfl, nofun, nofun⟩
theorem mapEq_t {x y : AV} {k : Bool → Bool} (hh : mapEq x y k = true) : ∃ r, eqMap x y = some r ∧ k r = true ∧ Good2 P x y := by
  cases x <;> first | exact no hh | skip
  all_goals cases y <;> first | exact no hh | exact ⟨_, rfl, hh, fun _ => rfl, rfl, nofun, nofun⟩
theorem funEq_t {x y : AV} {k : Bool → Bool} (hh : funEq x y k = true) : ∃ r, eqFun x y = some r ∧ k r = true ∧ Good2 P x y := by
  cases x <;> first | exact no hh | skip
  all_goals cases y <;> first | exact no hh | exact ⟨_, rfl, hh, fun _ => rfl, rfl, nofun, nofun⟩
theorem ifcEq_t {c : Bool} {x y : AV} {k : Bool → Bool} (hh : ifcEq c x y k = true) : ∃ r, eqIfc x y = some r ∧ k r = true ∧ (Good2 P x y ∨ (x = .nilIface ∧ y = .nilIface ∧ c = true)) := by
  cases x <;> first | exact no hh | skip
  · cases y <;> first | exact no hh | exact ⟨_, rfl, hh, .inl ⟨fun _ => rfl, rfl, nofun, nofun⟩⟩ | skip
    rename_i t u _ _
    rcases ite_t (show ite' (Nat.beq t _) false (k false) = true from hh) with ⟨_, hh⟩ | ⟨h1, hh⟩
    · exact no hh
    · exact ⟨false, by simp only [eqIfc, h1, Bool.false_eq_true, if_false], hh, .inl ⟨fun _ => rfl, rfl, nofun, nofun⟩⟩
  · cases y <;> first | exact no hh | exact ⟨_, rfl, hh, .inl ⟨fun _ => rfl, rfl, nofun, nofun⟩⟩ | skip
    obtain ⟨h1, hh⟩ := iff_t (show ite' c (k true) false = true from hh)
    exact ⟨true, rfl, hh, .inr ⟨rfl, rfl, h1⟩⟩
theorem ptrEq_t {z : Bool} {x y : AV} {k : Bool → Bool} (hh : ptrEq z x y k = true) : (∃ r, (∀ (s : AS) (el : TypeId) (m : Nat), sizeA P el = some (m + 1) → eqPtr P s el x y = some r) ∧ k r = true ∧ Good2 P x y) ∨ z = true := by
  cases x <;> first | exact no hh | skip
  · cases y <;> first | exact no hh | exact .inl ⟨_, fun s el m _ => rfl, hh, fun _ => rfl, rfl, nofun, nofun⟩
  · cases y <;> first | exact no hh | exact .inl ⟨_, fun s el m _ => rfl, hh, fun _ => rfl, rfl, nofun, nofun⟩ | skip
    rename_i b o c p
    rcases ite_t (show ite' (Nat.beq b c) (k (Nat.beq o p)) z = true from hh) with ⟨h1, hh⟩ | ⟨_, hh⟩
    · exact .inl ⟨Nat.beq o p, fun s el m hs => by simp only [eqPtr, hs, h1, if_true], hh, fun _ => rfl, rfl, nofun, nofun⟩
    · exact .inr hh
theorem bin_ops {op : BinOp} {t yt : TypeId} {x y : Operand} {gx gy : Env → AV} (hx : opG P σ x = some gx) (hy : opG P σ y = some gy) : opsOk P σ (.binOp op t x y yt) = true := by
  unfold opsOk
  have : opsG P σ (Op.binOp op t x y yt).operands.toList = some fun e => gx e :: gy e :: [] := by
    simp only [Op.operands, opsG, hx, hy]
  rw [this]
theorem compEq_ok {op : BinOp} {t yt : TypeId} {x y : Operand} {gx gy : Env → AV} (hx : opG P σ x = some gx) (hy : opG P σ y = some gy) {r : Bool → AV}
    (hop : (op = .eql ∧ r = fun b => .bool b) ∨ (op = .neq ∧ r = fun b => .bool !b)) : XoOk P σ N (.binOp op t x y yt) (compEq P σ (constO x || constO y) t gx gy (.binOp op t x y yt) r) := by
  have hk : kindOf (.binOp op t x y yt) = .R := by rcases hop with ⟨rfl, _⟩ | ⟨rfl, _⟩ <;> rfl
  have fin : ∀ {e ts s b} {k : AV → Bool}, ER σ N e ts → (∀ k n, gx e ≠ .int k n) → (∀ c, gx e ≠ .str c) → eqlO P s t x y (gx e) (gy e) = some b → k (r b) = true → ∃ v, valA P ts s (.binOp op t x y yt) = some v ∧ k v = true := by
    intro e ts s b k E hi hs he hh
    obtain ⟨k1, k2⟩ := valEq (yt := yt) (opG_ok E hx) (opG_ok E hy) hi hs he
    rcases hop with ⟨rfl, rfl⟩ | ⟨rfl, rfl⟩
    · exact ⟨_, k1, hh⟩
    · exact ⟨_, k2, hh⟩
  unfold compEq
  split
  · rename_i el hu
    split
    · rename_i m hs
      refine ⟨hk, fun e ts h n s E R k hh => ?_⟩
      rcases ptrEq_t (P := P) hh with ⟨b, h1, h2, g⟩ | hz
      · exact fin E g.2.2.1 g.2.2.2 (by rw [eqlO_of g]; unfold eqA; rw [hu]; exact h1 s el m hs) h2
      · exact slowRK_ok hk (bin_ops hx hy) E R k hz
    · exact slowR_ok hk
  · rename_i hu
    refine ⟨hk, fun e ts h n s E R k hh => ?_⟩
    obtain ⟨b, h1, h2, g⟩ := boolEq_t (P := P) hh
    exact fin E g.2.2.1 g.2.2.2 (by rw [eqlO_of g]; unfold eqA; rw [hu]; exact h1) h2
  · rename_i hu
    refine ⟨hk, fun e ts h n s E R k hh => ?_⟩
    obtain ⟨b, h1, h2, g⟩ := sliEq_t (P := P) hh
    exact fin E g.2.2.1 g.2.2.2 (by rw [eqlO_of g]; unfold eqA; rw [hu]; exact h1) h2
  · rename_i hu
    refine ⟨hk, fun e ts h n s E R k hh => ?_⟩
    obtain ⟨b, h1, h2, g⟩ := mapEq_t (P := P) hh
    exact fin E g.2.2.1 g.2.2.2 (by rw [eqlO_of g]; unfold eqA; rw [hu]; exact h1) h2
  · rename_i hu
    refine ⟨hk, fun e ts h n s E R k hh => ?_⟩
    obtain ⟨b, h1, h2, g⟩ := funEq_t (P := P) hh
    exact fin E g.2.2.1 g.2.2.2 (by rw [eqlO_of g]; unfold eqA; rw [hu]; exact h1) h2
  · rename_i hu
    refine ⟨hk, fun e ts h n s E R k hh => ?_⟩
    obtain ⟨b, h1, h2, g⟩ := ifcEq_t (P := P) hh
    rcases g with g | ⟨g1, g2, g3⟩
    · exact fin E g.2.2.1 g.2.2.2 (by rw [eqlO_of g]; unfold eqA; rw [hu]; exact h1) h2
    · rw [g1, g2] at h1
      refine fin E (by rw [g1]; nofun) (by rw [g1]; nofun) (by
        rw [g1, g2]
        unfold eqlO
        rw [show nilBoth .nilIface .nilIface = true from rfl, Bool.true_and, g3, if_pos rfl]
        unfold eqA
        rw [hu]
        exact h1) h2
  · exact slowR_ok hk
theorem compBin_ok {op : BinOp} {t yt : TypeId} {x y : Operand} {gx gy : Env → AV} (hx : opG P σ x = some gx) (hy : opG P σ y = some gy) :
    XoOk P σ N (.binOp op t x y yt) (compBin P σ op (constO x || constO y) t gx gy (.binOp op t x y yt)) := by
  have ar : ∀ {e ts}, ER σ N e ts → ∀ {b : BinOp} {f : AV → Bool}, (b ≠ .shl ∧ b ≠ .shr ∧ b ≠ .eql ∧ b ≠ .neq) → intsK (binI b) (gx e) (gy e) f = true → ∃ v, (∀ s, valA P ts s (.binOp b t x y yt) = some v) ∧ f v = true := by
    intro e ts E b f hb hh
    obtain ⟨k, m, n, h1, h2, hh⟩ := intsK_t hh
    obtain ⟨v, h3, h4⟩ := binI_ok b k m n f hh
    refine ⟨v, fun s => ?_, h4⟩
    simp only [valA, opG_ok E hx, opG_ok E hy, h1, h2]
    obtain ⟨b1, b2, b3, b4⟩ := hb
    cases b <;> first | exact absurd rfl b1 | exact absurd rfl b2 | exact absurd rfl b3 | exact absurd rfl b4 | (simp only [arithA, if_true]; exact h3)
  cases op with
  | eql =>
    unfold compBin
    simp only
    split
    · refine ⟨rfl, fun e ts h n s E R k hh => ?_⟩
      obtain ⟨j, m, n, h1, h2, hh⟩ := intsK_t hh
      obtain ⟨v, h3, h4⟩ := binI_ok .eql j m n k hh
      refine ⟨v, ?_, h4⟩
      simp only [valA, opG_ok E hx, opG_ok E hy, h1, h2, if_true]
      exact h3
    · exact compEq_ok hx hy (.inl ⟨rfl, rfl⟩)
  | neq =>
    unfold compBin
    simp only
    split
    · refine ⟨rfl, fun e ts h n s E R k hh => ?_⟩
      obtain ⟨j, m, n, h1, h2, hh⟩ := intsK_t hh
      obtain ⟨v, h3, h4⟩ := binI_ok .neq j m n k hh
      refine ⟨v, ?_, h4⟩
      simp only [valA, opG_ok E hx, opG_ok E hy, h1, h2, if_true]
      exact h3
    · exact compEq_ok hx hy (.inr ⟨rfl, rfl⟩)
  | shl =>
    refine ⟨rfl, fun e ts E k hh => ?_⟩
    obtain ⟨j, m, j', n, h1, h2, hh⟩ := shiftK_t hh
    obtain ⟨v, h3, h4⟩ := shlK_ok j m n k hh
    exact ⟨v, fun s => by simp only [valA, opG_ok E hx, opG_ok E hy, h1, h2, arithA]; exact h3, h4⟩
  | shr =>
    refine ⟨rfl, fun e ts E k hh => ?_⟩
    obtain ⟨j, m, j', n, h1, h2, hh⟩ := shiftK_t hh
    obtain ⟨v, h3, h4⟩ := shrK_ok j m n k hh
    exact ⟨v, fun s => by simp only [valA, opG_ok E hx, opG_ok E hy, h1, h2, arithA]; exact h3, h4⟩
  | _ => exact ⟨rfl, fun e ts E k hh => ar E (by decide) hh⟩
end
end Go.Mini.Fast
namespace Go.Mini.Fast
open Go

section
variable {P : Program} {σ : Sg} {N : Nat} {e : Env} {ts : List AV} {h : H} {n : Nat} {s : AS}

theorem write_ok (R : HR h n s) {b o : Nat} {vs cs cs' : List AV} (hb : (acB b).get h = some (.cells false cs)) (ho : vs.all AV.one = true) (hs : splice o vs cs = some cs') :
    ∃ s', writeA s b o vs = some s' ∧ HR ((acB b).set h (some (.cells false cs'))) n s' := by
  refine ⟨noteEsc (s.set b (.cells false cs')) b (vs.any (AV.young b)), ?_, (R.set hb _).congr (fun c => noteEsc_get _ _ _ _) (noteEsc_nx _ _ _)⟩
  unfold writeA
  rw [R.get _ _ hb]
  simp only [ho, if_true, hs]
theorem read_ok (R : HR h n s) {b o cnt : Nat} {ro : Bool} {cs l : List AV} (hb : (acB b).get h = some (.cells ro cs)) (hl : takeN cnt (cs.drop o) = some l) : readA s b o cnt = some l := by
  unfold readA
  rw [R.get _ _ hb]
  exact hl
theorem readK_t (R : HR h n s) {b o cnt : Nat} {f : List AV → Bool} (hh : onB b h (fun c _ => onCells c fun cs => dropK (fun l => takeK cnt l f) o cs) = true) : ∃ l, readA s b o cnt = some l ∧ f l = true := by
  obtain ⟨ro, cs, h1, h2⟩ := onCells_t (onB_t hh)
  obtain ⟨_, h3⟩ := dropK_t h2
  obtain ⟨l, h4, h5⟩ := takeK_t h3
  exact ⟨l, read_ok R h1 h4, h5⟩
theorem storeK_t (R : HR h n s) {size : Nat} {a v : AV} {k : KV} (hh : storeK size a v h n k = true) : ∃ b o s' h', a = .ptr b o ∧ Nat.beq v.cells.length size = true ∧ writeA s b o v.cells = some s' ∧ HR h' n s' ∧ k undefA h' n = true := by
  obtain ⟨b, o, rfl, h1⟩ := onPtr_t hh
  obtain ⟨cs, h2, h3⟩ := onRW_t (onB_t h1)
  rcases onCell_t h3 with ⟨k1, k2, k3⟩ | ⟨vs, rfl, k3⟩
  · obtain ⟨k4, k5⟩ := iff_t k3
    obtain ⟨cs', k6, k7⟩ := setK_t k5
    obtain ⟨s', w1, w2⟩ := write_ok R (vs := [v]) h2 (by simp [k1]) k6
    refine ⟨b, o, s', _, rfl, ?_, by rw [k2]; exact w1, w2, k7⟩
    rw [k2, Nat.eq_of_beq_eq_true k4]
    rfl
  · obtain ⟨k4, k5⟩ := iff_t k3
    obtain ⟨k6, k7⟩ := onesK_t k4
    obtain ⟨cs', k8, k9⟩ := spliceK_t k5
    obtain ⟨s', w1, w2⟩ := write_ok R h2 k7 k8
    refine ⟨b, o, s', _, rfl, ?_, w1, w2, k9⟩
    rw [show AV.cells (.agg vs) = vs from rfl, k6]
    exact Nat.beq_refl _
theorem store_ok {t : TypeId} {a x : Operand} {sz : Nat} {ga gx : Env → AV} (ht : sizeA P t = some sz) (ha : opG P σ a = some ga) (hx : opG P σ x = some gx) :
    XoOk P σ N (.store t a x) (.eff fun _ e h n k => storeK sz (ga e) (gx e) h n k) := by
  refine ⟨rfl, fun r e ts h n s _ E R k hh => ?_⟩
  obtain ⟨b, o, s', h', h1, h2, h3, h4, h5⟩ := storeK_t R hh
  refine ⟨undefA, h', n, s', .inl ?_, h4, h5⟩
  simp only [effA, opG_ok E ha, opG_ok E hx, storeA, h1, ht, h2, if_true, h3]
theorem app_eq : ∀ (l m : List AV), app l m = l ++ m
  | [], _ => rfl
  | x :: l, m => by
    show x :: app l m = _
    rw [app_eq l m]
    rfl
theorem callV_t {r : RecT} {v : AV} {args : List AV} {k : KV} (hh : callV P r v args h n k = true) : ∃ g first cap, v = .func (.func g) first cap ∧ callableA P g = true ∧ r g (first ++ args ++ cap) h n k = true := by
  obtain ⟨fn, first, cap, h1, h2⟩ := onFunc_t hh
  cases fn with
  | func g =>
    obtain ⟨h3, h4⟩ := iff_t h2
    exact ⟨g, first, cap, h1, h3, by rw [app_eq, app_eq, ← List.append_assoc] at h4; exact h4⟩
  | _ => exact no h2
theorem enter_ok {r : RecT} (hr : RecOk P r) (R : HR h n s) {op : Op} {g : FuncId} {args : List AV} {k : KV} (he : effA P ts s op = enterA P g args) (hc : callableA P g = true) (hh : r g args h n k = true) :
    ∃ v h' n' s', (effA P ts s op = some (.val v s') ∨ ∃ g args, effA P ts s op = some (.enter g args) ∧ Sound P (.call g args s) ⟨.ret, [v], s'⟩) ∧ HR h' n' s' ∧ k v h' n' = true := by
  obtain ⟨v, h', n', s', h1, h2, h3⟩ := hr _ _ _ _ _ hh s R
  exact ⟨v, h', n', s', .inr ⟨g, args, by rw [he, enterA, if_pos hc], h1⟩, h2, h3⟩

/-! ### append, copy -/
theorem firstK_t (R : HR h n s) {cnt : Nat} {v : AV} {f : List AV → Bool} (hh : firstK h cnt v f = true) : ∃ l, (∀ size m, m * size = cnt → firstA s size m v = some l) ∧ f l = true := by
  cases v with
  | nilSlice => exact ⟨[], fun _ _ _ => rfl, hh⟩
  | slice b o a c =>
    obtain ⟨l, h1, h2⟩ := readK_t R hh
    exact ⟨l, fun size m e => by simp only [firstA, e, h1], h2⟩
  | osl b o a c =>
    obtain ⟨l, h1, h2⟩ := readK_t R hh
    exact ⟨l, fun size m e => by simp only [firstA, e, h1], h2⟩
  | _ => exact no hh
theorem eltSize_t {t : TypeId} {sz : Nat} (hh : eltSize P t = some sz) : ∃ el i size z, P.underlying t = some (.slice el) ∧ P.info? el = some i ∧ i.size = size + 1 ∧ i.zero = some z ∧ (Nat.ble i.bytes 4096 && Nat.beq z.cells.size (size + 1)) = true ∧ sz = size + 1 := by
  unfold eltSize at hh
  split at hh
  · rename_i el hu
    split at hh
    · rename_i i hi
      split at hh
      · rename_i size z h1 h2
        split at hh
        · rename_i hc
          simp only [Option.some.injEq] at hh
          exact ⟨el, i, size, z, hu, hi, h1, h2, hc, hh.symm⟩
        · cases hh
      · cases hh
    · cases hh
  · cases hh
theorem appendK_t (R : HR h n s) {t t2 t3 : TypeId} {sz : Nat} {x y : AV} {k : KV} (ht : eltSize P t = some sz) (ht2 : P.underlying t2 = some (.slice t3)) (hh : appendK sz x y h n k = true) :
    ∃ v s' h' n', appendA P s t t2 x y = some (v, s') ∧ HR h' n' s' ∧ k v h' n' = true := by
  obtain ⟨el, i, size, z, u1, u2, u3, u4, u5, rfl⟩ := eltSize_t ht
  obtain ⟨m, h1, hh⟩ := slenK_t hh
  obtain ⟨new, h2, hh⟩ := firstK_t R hh
  obtain ⟨h3, hh⟩ := iff_t hh
  obtain ⟨_, h4⟩ := onesK_t h3
  have h2' := h2 (size + 1) m rfl
  have un : appendA P s t t2 x y = (match x with
          | .nilSlice => if Nat.beq m 0 then some (.nilSlice, s) else
            if Mini.small m then some (.osl s.nx 0 m (size + 1), s.push (.cells false new)) else none
          | .slice b o len cap =>
            if Nat.ble (len + m) cap then
              if Nat.beq m 0 then some (.slice b o len cap, s) else
              match writeA s b (o + len * (size + 1)) new with
              | some s' => some (.slice b o (len + m) cap, s')
              | none => none
            else if Mini.small (len + m) then
              match readA s b o (len * (size + 1)) with
              | some old => if old.all AV.one then some (.osl s.nx 0 (len + m) (size + 1), s.push (.cells false (old ++ new))) else none
              | none => none
            else none
          | .osl b o len esz =>
            if !(Nat.beq esz (size + 1)) then none else
            if Nat.beq m 0 then some (.osl b o len esz, s) else
            if Mini.small (len + m) && rwAt s b then
              match readA s b o (len * (size + 1)) with
              | some old => if old.all AV.one then some (.osl s.nx 0 (len + m) (size + 1), (s.set b .dead).push (.cells false (old ++ new))) else none
              | none => none
            else none
          | _ => none) := by
    unfold appendA
    simp only [u1, ht2, u2, u3, u4, h1, u5, Bool.not_true, Bool.false_eq_true, if_false, h2', h4]
    cases x <;> rfl
  rw [un]
  clear un
  have hnx := R.nx
  cases x with
  | nilSlice =>
    rcases ite_t (show ite' _ _ _ = true from hh) with ⟨a1, hh⟩ | ⟨a1, hh⟩
    · exact ⟨.nilSlice, s, h, n, by simp only [a1, if_true], R, hh⟩
    · obtain ⟨a2, hh⟩ := iff_t hh
      obtain ⟨h', R', hh⟩ := pushK_t R (force_t hh)
      exact ⟨_, _, h', n + 1, by simp only [a1, Bool.false_eq_true, if_false, a2, if_true, hnx], R', hh⟩
  | slice b o len cap =>
    rcases ite_t (show ite' _ _ _ = true from hh) with ⟨a0, hh⟩ | ⟨a0, hh⟩
    · have a0' : Nat.ble (len + m) cap = true := a0
      rcases ite_t hh with ⟨a1, hh⟩ | ⟨a1, hh⟩
      · exact ⟨_, s, h, n, by simp only [a0', a1, if_true], R, hh⟩
      · obtain ⟨cs, a2, hh⟩ := onRW_t (onB_t hh)
        obtain ⟨cs', a3, hh⟩ := spliceK_t hh
        obtain ⟨s', w1, w2⟩ := write_ok R (o := o + len * (size + 1)) a2 h4 a3
        exact ⟨.slice b o (len + m) cap, s', _, n, by simp only [a0', if_true, a1, Bool.false_eq_true, if_false, w1], w2, force_t hh⟩
    · have a0' : Nat.ble (len + m) cap = false := a0
      obtain ⟨a1, hh⟩ := iff_t hh
      have a1' : Mini.small (len + m) = true := a1
      obtain ⟨old, a2, hh⟩ := readK_t R hh
      obtain ⟨a3, hh⟩ := iff_t hh
      obtain ⟨_, a4⟩ := onesK_t a3
      obtain ⟨h', R', hh⟩ := pushK_t R (force_t hh)
      rw [app_eq] at R'
      have a2' : readA s b o (len * (size + 1)) = some old := a2
      exact ⟨.osl n 0 (len + m) (size + 1), s.push (.cells false (old ++ new)), h', n + 1, by simp only [a0', Bool.false_eq_true, if_false, a1', if_true, a2', a4, hnx], R', hh⟩
  | osl b o len esz =>
    obtain ⟨a0, hh⟩ := iff_t (show ite' _ _ false = true from hh)
    rcases ite_t hh with ⟨a1, hh⟩ | ⟨a1, hh⟩
    · exact ⟨_, s, h, n, by simp only [a0, Bool.not_true, Bool.false_eq_true, if_false, a1, if_true], R, hh⟩
    · obtain ⟨a2, hh⟩ := iff_t hh
      have a2' : Mini.small (len + m) = true := a2
      obtain ⟨cs, a3, hh⟩ := onRW_t (onB_t hh)
      obtain ⟨_, hh⟩ := dropK_t hh
      obtain ⟨old, a4, hh⟩ := takeK_t hh
      obtain ⟨a5, hh⟩ := iff_t hh
      obtain ⟨_, a6⟩ := onesK_t a5
      obtain ⟨h', R', hh⟩ := pushK_t (R.set a3 .dead) (force_t hh)
      rw [app_eq] at R'
      have a7 : rwAt s b = true := by unfold rwAt; rw [R.get _ _ a3]
      have a8 : readA s b o (len * (size + 1)) = some old := read_ok R a3 a4
      exact ⟨.osl n 0 (len + m) (size + 1), (s.set b .dead).push (.cells false (old ++ new)), h', n + 1, by simp only [a0, Bool.not_true, Bool.false_eq_true, if_false, a1, a2', a7, Bool.and_self, if_true, a8, a6, hnx], R', hh⟩
  | _ => exact no hh
theorem copyK_t (R : HR h n s) {t el : TypeId} {sz : Nat} {x y : AV} {k : KV} (ht : P.underlying t = some (.slice el)) (hs : sizeA P el = some sz) (hh : copyK sz x y h n k = true) :
    ∃ v s' h' n', copyA P s t x y = some (v, s') ∧ HR h' n' s' ∧ k v h' n' = true := by
  obtain ⟨dl, h1, hh⟩ := slenK_t hh
  obtain ⟨sl, h2, hh⟩ := slenK_t hh
  obtain ⟨new, h3, hh⟩ := firstK_t R (force_t hh)
  have h3' := h3 sz (Nat.min sl dl) rfl
  cases x with
  | nilSlice => exact ⟨.int .i64 ((Nat.min sl dl : Nat) : Int), s, h, n, by simp only [copyA, ht, hs, h1, h2, h3'], R, hh⟩
  | slice b o len cap =>
    rcases ite_t (show ite' _ _ _ = true from hh) with ⟨a1, hh⟩ | ⟨a1, hh⟩
    · exact ⟨.int .i64 ((Nat.min sl dl : Nat) : Int), s, h, n, by simp only [copyA, ht, hs, h1, h2, h3', a1, if_true], R, hh⟩
    · obtain ⟨cs, a2, hh⟩ := onRW_t (onB_t hh)
      obtain ⟨a3, hh⟩ := iff_t hh
      obtain ⟨_, a4⟩ := onesK_t a3
      obtain ⟨cs', a5, hh⟩ := spliceK_t hh
      obtain ⟨s', w1, w2⟩ := write_ok R a2 a4 a5
      exact ⟨.int .i64 ((Nat.min sl dl : Nat) : Int), s', _, n, by simp only [copyA, ht, hs, h1, h2, h3', a1, Bool.false_eq_true, if_false, w1], w2, hh⟩
  | osl b o len esz =>
    obtain ⟨cs, a2, hh⟩ := onRW_t (onB_t hh)
    obtain ⟨a3, hh⟩ := iff_t hh
    obtain ⟨_, a4⟩ := onesK_t a3
    obtain ⟨cs', a5, hh⟩ := spliceK_t hh
    obtain ⟨s', w1, w2⟩ := write_ok R a2 a4 a5
    exact ⟨.int .i64 ((Nat.min sl dl : Nat) : Int), s', _, n, by simp only [copyA, ht, hs, h1, h2, h3', w1], w2, hh⟩
  | _ => exact no hh
end
end Go.Mini.Fast
namespace Go.Mini.Fast
open Go

section
variable {P : Program} {h : H} {n : Nat} {s : AS}

/-! ### keys as numbers -/
theorem cellN_some {c : Option IntKind} {v : AV} {m : Nat} (hc : cellN c v = some m) : m < 18446744073709551616 ∧ ((∃ k, c = some k ∧ v = .int k (.ofNat m)) ∨ (c = none ∧ ∃ b, v = .bool b ∧ m = b.toNat)) := by
  unfold cellN at hc
  split at hc
  · rename_i k k' m'
    split at hc
    · rename_i hk
      simp only [Bool.and_eq_true] at hk
      simp only [Option.some.injEq] at hc
      subst hc
      have := kEq_t hk.1
      subst this
      exact ⟨blt_t hk.2, .inl ⟨_, rfl, rfl⟩⟩
    · cases hc
  · rename_i b
    simp only [Option.some.injEq] at hc
    subst hc
    exact ⟨by cases b <;> decide, .inr ⟨rfl, b, rfl, rfl⟩⟩
  · cases hc
theorem cell_inj {c : Option IntKind} {v w : AV} {m : Nat} (h1 : cellN c v = some m) (h2 : cellN c w = some m) : v = w ∧ bitEq1 v w = true := by
  obtain ⟨_, a⟩ := cellN_some h1
  obtain ⟨_, b⟩ := cellN_some h2
  rcases a with ⟨k, rfl, rfl⟩ | ⟨rfl, x, rfl, rfl⟩
  · rcases b with ⟨k', e, rfl⟩ | ⟨e, _⟩
    · simp only [Option.some.injEq] at e
      subst e
      exact ⟨rfl, by simp [bitEq1]⟩
    · cases e
  · rcases b with ⟨k', e, _⟩ | ⟨_, y, rfl, e⟩
    · cases e
    · have : x = y := by cases x <;> cases y <;> first | rfl | cases e
      subst this
      exact ⟨rfl, by simp [bitEq1]⟩
theorem codeL_cons {c : Option IntKind} {cs : List (Option IntKind)} {xs : List AV} {d : Nat} (hd : codeL (c :: cs) xs = some d) : ∃ x t m r, xs = x :: t ∧ cellN c x = some m ∧ codeL cs t = some r ∧ d = r * 18446744073709551616 + m := by
  cases xs with
  | nil => simp [codeL] at hd
  | cons x t =>
    simp only [codeL] at hd
    split at hd
    · rename_i m hm
      split at hd
      · rename_i r hr
        simp only [Option.some.injEq] at hd
        exact ⟨x, t, m, r, rfl, hm, hr, hd.symm⟩
      · cases hd
    · cases hd
theorem codeL_inj : ∀ {cs : List (Option IntKind)} {xs ys : List AV} {d : Nat}, codeL cs xs = some d → codeL cs ys = some d → xs = ys ∧ bitEqs xs ys = true
  | [], xs, ys, d, h1, h2 => by
    cases xs with
    | nil =>
      cases ys with
      | nil => exact ⟨rfl, rfl⟩
      | cons y t => simp [codeL] at h2
    | cons x t => simp [codeL] at h1
  | c :: cs, xs, ys, d, h1, h2 => by
    obtain ⟨x, t, m, r, rfl, a1, a2, a3⟩ := codeL_cons h1
    obtain ⟨y, u, m', r', rfl, b1, b2, b3⟩ := codeL_cons h2
    have l1 := (cellN_some a1).1
    have l2 := (cellN_some b1).1
    have hm : m = m' := by omega
    have hr : r = r' := by omega
    subst hm hr
    obtain ⟨rfl, e1⟩ := cell_inj a1 b1
    obtain ⟨rfl, e2⟩ := codeL_inj a2 b2
    exact ⟨rfl, by simp only [bitEqs, e1, e2, Bool.and_self]⟩
theorem codeA_inj {cs : KS} {x y : AV} {d : Nat} (h1 : codeA cs x = some d) (h2 : codeA cs y = some d) : x = y ∧ bitEq x y = true := by
  cases cs with
  | one c =>
    simp only [codeA] at h1 h2
    obtain ⟨rfl, e⟩ := cell_inj h1 h2
    refine ⟨rfl, ?_⟩
    rcases (cellN_some h1).2 with ⟨k, _, rfl⟩ | ⟨_, b, rfl, _⟩ <;> exact e
  | row cs =>
    cases x <;> simp only [codeA, reduceCtorEq] at h1
    cases y <;> simp only [codeA, reduceCtorEq] at h2
    obtain ⟨rfl, e⟩ := codeL_inj h1 h2
    exact ⟨rfl, e⟩

theorem cell_eq {c : Option IntKind} {v w : AV} {m m' : Nat} {d : Nat} {t : TypeId} (hu : (∃ k, c = some k ∧ P.underlying t = some (.int k)) ∨ (c = none ∧ P.underlying t = some .bool)) (h1 : cellN c v = some m) (h2 : cellN c w = some m') :
    eqA P s (d + 1) t v w = some (Nat.beq m m') ∧ keyA P (d + 1) t v = true := by
  rcases hu with ⟨k, rfl, hu⟩ | ⟨rfl, hu⟩
  · rcases (cellN_some h1).2 with ⟨_, e, rfl⟩ | ⟨e, _⟩
    · simp only [Option.some.injEq] at e
      subst e
      rcases (cellN_some h2).2 with ⟨_, e, rfl⟩ | ⟨e, _⟩
      · simp only [Option.some.injEq] at e
        subst e
        exact ⟨by simp only [eqA, hu, eqInt, if_true, beq_nat], by simp only [keyA, hu]⟩
      · cases e
    · cases e
  · rcases (cellN_some h1).2 with ⟨_, e, _⟩ | ⟨_, a, rfl, rfl⟩
    · cases e
    · rcases (cellN_some h2).2 with ⟨_, e, _⟩ | ⟨_, b, rfl, rfl⟩
      · cases e
      · exact ⟨by simp only [eqA, hu, eqBool]; cases a <;> cases b <;> rfl, by simp only [keyA, hu]⟩
theorem part_cell {c : Option IntKind} {t : TypeId} {xs : List AV} {o : Nat} {x : AV} (hu : (∃ k, c = some k ∧ P.underlying t = some (.int k)) ∨ (c = none ∧ P.underlying t = some .bool)) (hx : xs[o]? = some x) : partA P t xs o = some x := by
  unfold partA isAggA
  rcases hu with ⟨k, _, hu⟩ | ⟨_, hu⟩ <;> rw [hu] <;> exact hx
theorem drop_cons {xs : List AV} {o : Nat} {x : AV} {t : List AV} (hd : xs.drop o = x :: t) : xs[o]? = some x ∧ xs.drop (o + 1) = t := by
  refine ⟨?_, ?_⟩
  · have := List.getElem?_drop (xs := xs) (i := o) (j := 0)
    rw [hd] at this
    simpa using this.symm
  · rw [← List.drop_drop, hd]
    rfl
theorem fields_eq {d : Nat} {xs ys : List AV} : ∀ {fs : List Field} {o : Nat} {cs : List (Option IntKind)} {a b : Nat}, flatF P fs o = some cs → codeL cs (xs.drop o) = some a → codeL cs (ys.drop o) = some b →
    eqFields P (eqA P s (d + 1)) xs ys fs = some (Nat.beq a b) ∧ (fs.all fun f => match partA P f.type xs f.offset with
        | some x => keyA P (d + 1) f.type x
        | none => false) = true
  | [], o, cs, a, b, hf, h1, h2 => by
    simp only [flatF, Option.some.injEq] at hf
    subst hf
    have ha : a = 0 := by
      cases hx : xs.drop o with
      | nil => rw [hx] at h1; simpa [codeL] using h1.symm
      | cons x t => rw [hx] at h1; simp [codeL] at h1
    have hb : b = 0 := by
      cases hx : ys.drop o with
      | nil => rw [hx] at h2; simpa [codeL] using h2.symm
      | cons x t => rw [hx] at h2; simp [codeL] at h2
    subst ha hb
    exact ⟨rfl, rfl⟩
  | f :: fs, o, cs, a, b, hf, h1, h2 => by
    simp only [flatF] at hf
    split at hf
    · rename_i ho
      have ho' := Nat.eq_of_beq_eq_true ho
      have key : ∀ (c : Option IntKind) (l : List (Option IntKind)), flatF P fs (o + 1) = some l → cs = c :: l → ((∃ k, c = some k ∧ P.underlying f.type = some (.int k)) ∨ (c = none ∧ P.underlying f.type = some .bool)) →
          eqFields P (eqA P s (d + 1)) xs ys (f :: fs) = some (Nat.beq a b) ∧ ((f :: fs).all fun f => match partA P f.type xs f.offset with
            | some x => keyA P (d + 1) f.type x
            | none => false) = true := by
        intro c l hl hcs hu
        subst hcs
        obtain ⟨x, t, m, r, e1, a1, a2, a3⟩ := codeL_cons h1
        obtain ⟨y, u, m', r', e2, b1, b2, b3⟩ := codeL_cons h2
        obtain ⟨x1, x2⟩ := drop_cons e1
        obtain ⟨y1, y2⟩ := drop_cons e2
        obtain ⟨q1, q2⟩ := cell_eq (s := s) (d := d) hu a1 b1
        rw [← x2] at a2
        rw [← y2] at b2
        obtain ⟨i1, i2⟩ := fields_eq (d := d) hl a2 b2
        have l1 := (cellN_some a1).1
        have l2 := (cellN_some b1).1
        rw [← ho'] at x1 y1
        refine ⟨?_, ?_⟩
        · simp only [eqFields, part_cell hu x1, part_cell hu y1, q1]
          cases hm : Nat.beq m m' with
          | true =>
            have := Nat.eq_of_beq_eq_true hm
            subst this
            simp only [i1]
            congr 1
            rw [Bool.eq_iff_iff, Nat.beq_eq, Nat.beq_eq]
            omega
          | false =>
            have hne : m ≠ m' := fun e => by rw [e, Nat.beq_refl] at hm; cases hm
            have hab : Nat.beq a b = false := by
              cases hh : Nat.beq a b with
              | false => rfl
              | true =>
                have := Nat.eq_of_beq_eq_true hh
                exact absurd (by omega) hne
            rw [hab]
        · rw [List.all_cons, part_cell hu x1]
          simp only [q2, Bool.true_and]
          exact i2
      split at hf
      · rename_i k l hk hl
        simp only [Option.some.injEq] at hf
        exact key _ l hl hf.symm (.inl ⟨k, rfl, hk⟩)
      · rename_i l hk hl
        simp only [Option.some.injEq] at hf
        exact key _ l hl hf.symm (.inr ⟨rfl, hk⟩)
      · cases hf
    · cases hf
theorem key_ok {kt : TypeId} {cs : KS} {x y : AV} {a b : Nat} (hk : flatK P kt = some cs) (h1 : codeA cs x = some a) (h2 : codeA cs y = some b) : eqA P s 8 kt x y = some (Nat.beq a b) ∧ keyA P 4 kt x = true := by
  unfold flatK at hk
  split at hk
  · rename_i k hu
    simp only [Option.some.injEq] at hk
    subst hk
    exact ⟨(cell_eq (s := s) (d := 7) (.inl ⟨k, rfl, hu⟩) h1 h2).1, (cell_eq (P := P) (s := s) (d := 3) (.inl ⟨k, rfl, hu⟩) h1 h2).2⟩
  · rename_i fs hu
    split at hk
    · cases hk
    · rename_i hc
      cases hf : flatF P fs.toList 0 with
      | none => rw [hf] at hk; cases hk
      | some l =>
        rw [hf] at hk
        simp only [Option.map_some, Option.some.injEq] at hk
        subst hk
        cases x <;> simp only [codeA, reduceCtorEq] at h1
        cases y <;> simp only [codeA, reduceCtorEq] at h2
        rename_i xs ys
        have hc' : P.stoodInHeld kt = false ∧ noBlank fs = true := by
          cases h3 : P.stoodInHeld kt <;> cases h4 : noBlank fs <;> simp [h3, h4] at hc ⊢
        obtain ⟨i1, _⟩ := fields_eq (s := s) (d := 6) (xs := xs) (ys := ys) hf (by simpa using h1) (by simpa using h2)
        obtain ⟨_, i2⟩ := fields_eq (P := P) (s := s) (d := 2) (xs := xs) (ys := ys) hf (by simpa using h1) (by simpa using h2)
        refine ⟨?_, ?_⟩
        · unfold eqA
          rw [hu]
          simp only [aggOf, hc'.1, hc'.2, Bool.not_true, Bool.or_self, Bool.false_eq_true, if_false]
          exact i1
        · unfold keyA
          rw [hu]
          simp only [hc'.2, Bool.true_and]
          exact i2
  · cases hk

/-! ### the entries -/
section
variable {kt : TypeId} {cs : KS} {k : AV} {c : Nat}
theorem beq_comm (a b : Nat) : Nat.beq a b = Nat.beq b a := by rw [Bool.eq_iff_iff, Nat.beq_eq, Nat.beq_eq]; exact eq_comm
theorem lookK_t (hf : flatK P kt = some cs) (hc : codeA cs k = some c) {hit : AV → Bool} {miss : Bool} : ∀ {es : List (AV × AV)} {i : Nat}, lookK cs c hit miss es = true →
    (findA P s kt k es i = some none ∧ miss = true) ∨ ∃ j k' v, findA P s kt k es i = some (some (j, k', v)) ∧ hit v = true
  | [], i, hh => .inl ⟨rfl, hh⟩
  | e :: es, i, hh => by
    obtain ⟨c', h1, hh⟩ := onSome_t (show onSome (codeA cs e.1) (fun c' => ite' (Nat.beq c' c) (hit e.2) (lookK cs c hit miss es)) = true from hh)
    have he := (key_ok (s := s) hf hc h1).1
    rw [beq_comm] at he
    rcases ite_t hh with ⟨h2, hh⟩ | ⟨h2, hh⟩
    · rw [h2] at he
      exact .inr ⟨i, e.1, e.2, by simp only [findA, he], hh⟩
    · rw [h2] at he
      simp only [findA, he]
      exact lookK_t hf hc hh
theorem updK_t (hf : flatK P kt = some cs) (hc : codeA cs k = some c) {mk : AV → AV × AV} : ∀ {es : List (AV × AV)} {i : Nat} {bn : List Nat} {hit : AV → Nat → List (AV × AV) → Bool} {miss : Bool}, updK cs c mk es bn hit miss = true →
    (findA P s kt k es i = some none ∧ miss = true) ∨ ∃ j v st, findA P s kt k es i = some (some (i + j, k, v)) ∧ bn[j]? = some st ∧ bitEq k k = true ∧ hit v st (setAt es j (mk v)) = true
  | [], i, bn, hit, miss, hh => .inl ⟨rfl, hh⟩
  | e :: es, i, bn, hit, miss, hh => by
    obtain ⟨c', h1, hh⟩ := onSome_t (x := codeA cs e.1) hh
    cases bn with
    | nil => exact no hh
    | cons st bn =>
      have he := (key_ok (s := s) hf hc h1).1
      rw [beq_comm] at he
      rcases ite_t (show ite' (Nat.beq c' c) (hit e.2 st (mk e.2 :: es)) (updK cs c mk es bn (fun v n l => hit v n (e :: l)) miss) = true from hh) with ⟨h2, h3⟩ | ⟨h2, h3⟩
      · rw [h2] at he
        have hcc := Nat.eq_of_beq_eq_true h2
        subst hcc
        obtain ⟨e1, e2⟩ := codeA_inj hc h1
        refine .inr ⟨0, e.2, st, ?_, rfl, ?_, h3⟩
        · simp only [findA, he]
          rw [← e1]
          rfl
        · rw [← e1] at e2
          exact e2
      · rw [h2] at he
        rcases updK_t (i := i + 1) hf hc h3 with ⟨a1, a2⟩ | ⟨j, v, st', a1, a2, a3, a4⟩
        · exact .inl ⟨by simp only [findA, he]; exact a1, a2⟩
        · refine .inr ⟨j + 1, v, st', ?_, by simpa using a2, a3, a4⟩
          simp only [findA, he]
          rw [a1, Nat.add_assoc, Nat.add_comm 1 j]
theorem stampK_t {m : Nat} {v : AV} : ∀ {es : List (AV × AV)} {bn : List Nat} {i : Nat} {hit : List (AV × AV) → Bool}, stampK m v es bn hit = true → ∃ j k, stampAt m bn i = some (i + j) ∧ (∃ w, es[j]? = some (k, w)) ∧ hit (setAt es j (k, v)) = true
  | [], bn, i, hit, hh => no hh
  | e :: es, [], i, hit, hh => no hh
  | e :: es, b :: bn, i, hit, hh => by
    rcases ite_t (show ite' (Nat.beq b m) (hit ((e.1, v) :: es)) (stampK m v es bn fun l => hit (e :: l)) = true from hh) with ⟨h2, hh⟩ | ⟨h2, hh⟩
    · exact ⟨0, e.1, by simp only [stampAt, h2, if_true, Nat.add_zero], ⟨e.2, rfl⟩, hh⟩
    · obtain ⟨j, k, a1, ⟨w, a2⟩, a3⟩ := stampK_t (i := i + 1) hh
      refine ⟨j + 1, k, ?_, ⟨w, by simpa using a2⟩, a3⟩
      simp only [stampAt, h2, Bool.false_eq_true, if_false]
      rw [a1, Nat.add_assoc, Nat.add_comm 1 j]
theorem delK_t (hf : flatK P kt = some cs) (hc : codeA cs k = some c) : ∀ {es : List (AV × AV)} {i : Nat} {bn : List Nat} {hit : List (AV × AV) → List Nat → Bool} {miss : Bool}, delK cs c es bn hit miss = true →
    (findA P s kt k es i = some none ∧ miss = true) ∨ ∃ j k' v, findA P s kt k es i = some (some (i + j, k', v)) ∧ hit (eraseAt es j) (bn.eraseIdx j) = true
  | [], i, bn, hit, miss, hh => .inl ⟨rfl, hh⟩
  | e :: es, i, bn, hit, miss, hh => by
    obtain ⟨c', h1, hh⟩ := onSome_t (x := codeA cs e.1) hh
    cases bn with
    | nil => exact no hh
    | cons st bn =>
      have he := (key_ok (s := s) hf hc h1).1
      rw [beq_comm] at he
      rcases ite_t (show ite' (Nat.beq c' c) (hit es bn) (delK cs c es bn (fun l m => hit (e :: l) (st :: m)) miss) = true from hh) with ⟨h2, hh⟩ | ⟨h2, hh⟩
      · rw [h2] at he
        exact .inr ⟨0, e.1, e.2, by simp only [findA, he]; rfl, hh⟩
      · rw [h2] at he
        rcases delK_t (i := i + 1) hf hc hh with ⟨a1, a2⟩ | ⟨j, k', v, a1, a2⟩
        · exact .inl ⟨by simp only [findA, he]; exact a1, a2⟩
        · refine .inr ⟨j + 1, k', v, ?_, a2⟩
          simp only [findA, he]
          rw [a1, Nat.add_assoc, Nat.add_comm 1 j]
theorem snocK_t {α : Type} {x : α} : ∀ {l : List α} {f : List α → Bool}, snocK l x f = true → f (l ++ [x]) = true
  | [], _, hh => hh
  | y :: l, f, hh => snocK_t (l := l) (f := fun r => f (y :: r)) hh
end
end
end Go.Mini.Fast
namespace Go.Mini.Fast
open Go

section
variable {P : Program} {σ : Sg} {N : Nat} {h : H} {n : Nat} {s : AS} {t kt et : TypeId} {cs : KS}

theorem lookupK_t (R : HR h n s) (hu : P.underlying t = some (.map kt et)) (hf : flatK P kt = some cs) {z m k : AV} {ok : Bool} {f : AV → Bool} (hz : zeroA P et = some z) (hh : lookupK cs z ok m k h f = true) :
    ∃ v, lookupA P s t m k ok = some v ∧ f v = true := by
  obtain ⟨c, hc, hh⟩ := onSome_t (x := codeA cs k) hh
  have hh := force_t hh
  have hk := (key_ok (s := s) hf hc hc).2
  rcases onMap_t hh with ⟨b, rfl, g1⟩ | ⟨rfl, g1⟩
  · obtain ⟨es, bn, ck, h1, hh⟩ := onMapO_t (onB_t g1)
    have h2 : mapOf s b = some es := by unfold mapOf; rw [R.get _ _ h1]
    rcases lookK_t (s := s) (i := 0) hf hc hh with ⟨a1, a2⟩ | ⟨j, k', v, a1, a2⟩
    · refine ⟨if ok then .tuple [z, .bool false] else z, by simp only [lookupA, hu, hk, if_true, h2, a1, hz], ?_⟩
      cases ok <;> exact a2
    · refine ⟨if ok then .tuple [v, .bool true] else v, by simp only [lookupA, hu, hk, if_true, h2, a1], ?_⟩
      cases ok <;> exact a2
  · refine ⟨if ok then .tuple [z, .bool false] else z, by simp only [lookupA, hu, hk, if_true, hz], ?_⟩
    cases ok <;> exact g1
theorem HR.note (R : HR h n s) (b : Nat) (y : Bool) : HR h n (noteEsc s b y) := R.congr (fun _ => noteEsc_get _ _ _ _) (noteEsc_nx _ _ _)
theorem updateK_t (R : HR h n s) (hu : P.underlying t = some (.map kt et)) (hf : flatK P kt = some cs) {m k v : AV} {f : KV} (hh : updateK cs m k v h n f = true) : ∃ s' h', updateA P s t m k v = some s' ∧ HR h' n s' ∧ f undefA h' n = true := by
  obtain ⟨c, hc, hh⟩ := onSome_t (x := codeA cs k) hh
  have hh := force_t hh
  have hk := (key_ok (s := s) hf hc hc).2
  rcases onMap_t hh with ⟨b, rfl, g1⟩ | ⟨_, g1⟩
  · obtain ⟨es, bn, ck, h1, hh⟩ := onMapO_t (onB_t g1)
    have h2 : mapAt s b = some (es, bn, ck) := by unfold mapAt; rw [R.get _ _ h1]
    rcases updK_t (s := s) (i := 0) hf hc hh with ⟨a1, a2⟩ | ⟨j, w, st, a1, _, a3, a4⟩
    · exact ⟨_, _, by simp only [updateA, hu, hk, if_true, h2, a1]; rfl, (R.set h1 _).note _ _, force_t (snocK_t (snocK_t a2))⟩
    · exact ⟨_, _, by simp only [updateA, hu, hk, if_true, h2, a1, a3, Bool.not_true, Bool.false_eq_true, if_false, Nat.zero_add]; rfl, (R.set h1 _).note _ _, a4⟩
  · exact no g1
theorem entryK_t (R : HR h n s) (hu : P.underlying t = some (.map kt et)) (hf : flatK P kt = some cs) {z m k : AV} {f : KV} (hz : zeroA P et = some z) (hh : entryK cs z m k h n f = true) :
    ∃ v st s' h', entryA P s t m k = some (v, st, s') ∧ HR h' n s' ∧ f (.tuple [v, .int .i64 (.ofNat st)]) h' n = true := by
  obtain ⟨c, hc, hh⟩ := onSome_t (x := codeA cs k) hh
  have hh := force_t hh
  have hk := (key_ok (s := s) hf hc hc).2
  rcases onMap_t hh with ⟨b, rfl, g1⟩ | ⟨_, g1⟩
  · obtain ⟨es, bn, ck, h1, hh⟩ := onMapO_t (onB_t g1)
    have h2 : mapAt s b = some (es, bn, ck) := by unfold mapAt; rw [R.get _ _ h1]
    rcases updK_t (s := s) (i := 0) hf hc hh with ⟨a1, a2⟩ | ⟨j, w, st, a1, a2, a3, a4⟩
    · exact ⟨z, ck, _, _, by simp only [entryA, hu, hk, if_true, h2, a1, hz], R.set h1 _, force_t (snocK_t (snocK_t a2))⟩
    · exact ⟨w, st, _, _, by simp only [entryA, hu, hk, if_true, h2, a1, a2, a3, Bool.not_true, Bool.false_eq_true, if_false, Nat.zero_add], R.set h1 _, a4⟩
  · exact no g1
theorem entryStoreK_t (R : HR h n s) {m st v : AV} {f : KV} (hh : entryStoreK m st v h n f = true) : ∃ s' h', entryStoreA s m st v = some s' ∧ HR h' n s' ∧ f undefA h' n = true := by
  obtain ⟨ki, z, rfl, hh⟩ := onInt_t (v := st) hh
  rcases onNat_t hh with ⟨i, rfl, g0⟩ | g0
  · rcases onMap_t g0 with ⟨b, rfl, g1⟩ | ⟨_, g1⟩
    · obtain ⟨es, bn, ck, h1, hh⟩ := onMapO_t (onB_t g1)
      have h2 : mapAt s b = some (es, bn, ck) := by unfold mapAt; rw [R.get _ _ h1]
      obtain ⟨j, k, a1, ⟨w, a2⟩, a3⟩ := stampK_t (i := 0) hh
      rw [Nat.zero_add] at a1
      exact ⟨_, _, by simp only [entryStoreA, h2, a1, a2]; rfl, (R.set h1 _).note _ _, a3⟩
    · exact no g1
  · exact no g0
theorem deleteK_t (R : HR h n s) (hu : P.underlying t = some (.map kt et)) (hf : flatK P kt = some cs) {m k : AV} {f : KV} (hh : deleteK cs m k h n f = true) : ∃ s' h', deleteA P s t m k = some s' ∧ HR h' n s' ∧ f undefA h' n = true := by
  obtain ⟨c, hc, hh⟩ := onSome_t (x := codeA cs k) hh
  have hh := force_t hh
  have hk := (key_ok (s := s) hf hc hc).2
  rcases onMap_t hh with ⟨b, rfl, g1⟩ | ⟨rfl, g1⟩
  · obtain ⟨es, bn, ck, h1, hh⟩ := onMapO_t (onB_t g1)
    have h2 : mapAt s b = some (es, bn, ck) := by unfold mapAt; rw [R.get _ _ h1]
    rcases delK_t (s := s) (i := 0) hf hc hh with ⟨a1, a2⟩ | ⟨j, k', w, a1, a2⟩
    · exact ⟨s, h, by simp only [deleteA, hu, hk, if_true, h2, a1], R, a2⟩
    · exact ⟨_, _, by simp only [deleteA, hu, hk, if_true, h2, a1, Nat.zero_add], R.set h1 _, a2⟩
  · exact ⟨s, h, by simp only [deleteA, hu, hk, if_true], R, g1⟩

theorem args_ok {c : Call} {gs : Env → List AV} (hg : opsG P σ c.args.toList = some gs) {e : Env} {ts : List AV} (E : ER σ N e ts) : evL P ts c.args.toList = some (gs e) := opsG_ok E hg
theorem compCall_ok (c : Call) : XoOk P σ N (.call c) (compCall P σ c) := by
  unfold compCall
  split
  · trivial
  · rename_i gs hg
    split
    · rename_i f hf
      have hk : kindOf (.call c) = .E := by simp only [kindOf, hf]
      split
      · rename_i g
        split
        · rename_i hcall
          refine ⟨hk, fun r e ts h n s hr E R k hh => enter_ok hr R ?_ hcall hh⟩
          simp only [effA, args_ok hg E, hf, evA, List.nil_append, List.append_nil]
        · trivial
      · split
        · rename_i gf hgf
          refine ⟨hk, fun r e ts h n s hr E R k hh => ?_⟩
          obtain ⟨g, first, cap, h1, h2, h3⟩ := callV_t hh
          refine enter_ok hr R ?_ h2 h3
          simp only [effA, args_ok hg E, hf, opG_ok E hgf, h1]
        · trivial
    · rename_i x name hf
      have hk : kindOf (.call c) = .E := by simp only [kindOf, hf]
      split
      · rename_i gr hgr
        refine ⟨hk, fun r e ts h n s hr E R k hh => ?_⟩
        rcases onIface_t hh with ⟨t, v, h1, hh⟩ | ⟨_, hh⟩
        · obtain ⟨g, h2, hh⟩ := onSome_t hh
          obtain ⟨h3, hh⟩ := iff_t hh
          refine enter_ok hr R ?_ h3 hh
          simp only [effA, args_ok hg E, hf, opG_ok E hgr, h1, h2]
        · exact no hh
      · trivial
    · rename_i hf
      have hk : kindOf (.call c) = .R := by simp only [kindOf, hf]
      split
      · rename_i x t tys hargs htys
        split
        · rename_i g el hx hu
          refine ⟨hk, fun e ts h n s E R k hh => ?_⟩
          obtain ⟨m, h1, h2⟩ := lenK_t hh
          refine ⟨_, ?_, h2⟩
          simp only [valA, hf, hargs, htys, opG_ok E hx, lenA, hu]
          revert h1
          cases g e <;> intro h1 <;> simp only [sliceLen, Option.some.injEq, reduceCtorEq] at h1 <;> subst h1 <;> rfl
        · exact slowR_ok hk
      · trivial
    · rename_i hf
      exact slowP_ok (by simp only [kindOf, hf])
    · rename_i hf
      exact slowP_ok (by simp only [kindOf, hf])
    · rename_i hf
      exact slowP_ok (by simp only [kindOf, hf])
    · rename_i hf
      have hk : kindOf (.call c) = .E := by simp only [kindOf, hf]
      split
      · rename_i x y t t2 tys hargs htys
        split
        · rename_i gx gy sz el hx hy hsz hu
          refine ⟨hk, fun r e ts h n s hr E R k hh => ?_⟩
          obtain ⟨v, s', h', n', h1, h2, h3⟩ := appendK_t R hsz hu hh
          refine ⟨v, h', n', s', .inl ?_, h2, h3⟩
          have ha : evL P ts c.args.toList = some [gx e, gy e] := by rw [hargs]; simp only [evL, opG_ok E hx, opG_ok E hy]
          simp only [effA, ha, hf, htys, h1]
        · trivial
      · trivial
    · rename_i hf
      have hk : kindOf (.call c) = .E := by simp only [kindOf, hf]
      split
      · rename_i x y t tys hargs htys
        split
        · rename_i gx gy el hx hy hu
          split
          · rename_i sz hsz
            refine ⟨hk, fun r e ts h n s hr E R k hh => ?_⟩
            obtain ⟨v, s', h', n', h1, h2, h3⟩ := copyK_t R hu hsz hh
            refine ⟨v, h', n', s', .inl ?_, h2, h3⟩
            have ha : evL P ts c.args.toList = some [gx e, gy e] := by rw [hargs]; simp only [evL, opG_ok E hx, opG_ok E hy]
            simp only [effA, ha, hf, htys, h1]
          · trivial
        · trivial
      · trivial
    · rename_i hf
      have hk : kindOf (.call c) = .E := by simp only [kindOf, hf]
      split
      · rename_i x y t tys hargs htys
        split
        · rename_i gx gy kt et hx hy hu
          split
          · rename_i cs hcs
            refine ⟨hk, fun r e ts h n s hr E R k hh => ?_⟩
            obtain ⟨s', h', h1, h2, h3⟩ := deleteK_t R hu hcs hh
            refine ⟨undefA, h', n, s', .inl ?_, h2, h3⟩
            have ha : evL P ts c.args.toList = some [gx e, gy e] := by rw [hargs]; simp only [evL, opG_ok E hx, opG_ok E hy]
            simp only [effA, ha, hf, htys, h1]
          · trivial
        · trivial
      · trivial
    · trivial
end
end Go.Mini.Fast
