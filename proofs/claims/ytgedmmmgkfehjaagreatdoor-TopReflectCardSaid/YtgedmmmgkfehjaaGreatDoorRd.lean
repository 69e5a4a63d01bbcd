/- A reckoner over the model's code: it runs a function over labels in place of addresses, and gives up (none) wherever what it knows does not settle what comes. Here: its words. What it says of the model is proved in the texts behind this one. -/
import Derived.WalkKit
namespace Go.Proofs.YtgedmmmgkfehjaaGreatDoor

inductive Tr (α : Type) where
  | nil
  | node (v : Option α) (l r : Tr α)

abbrev R (β : Type) := Option β

--PRELUDE
noncomputable def ob {α β : Type} (o : Option α) (k : α → R β) : R β := Option.rec (motive := fun _ => R β) none k o
noncomputable def gd {β : Type} (b : Bool) (x : R β) : R β := Bool.rec (motive := fun _ => R β) none x b
noncomputable def ifB {γ : Type} (b : Bool) (x y : γ) : γ := Bool.rec (motive := fun _ => γ) y x b
noncomputable def listRec {α γ : Type} (z : γ) (f : α → γ → γ) (l : List α) : γ := List.rec (motive := fun _ => γ) z (fun a _ ih => f a ih) l
noncomputable def natRec {α γ : Type} (z : α → γ) (f : (α → γ) → α → γ) (n : Nat) : α → γ := Nat.rec (motive := fun _ => α → γ) z (fun _ ih => f ih) n
noncomputable def forceN {β : Type} (n : Nat) (k : Nat → R β) : R β := Nat.rec (motive := fun _ => R β) (k Nat.zero) (fun m _ => k (Nat.succ m)) n
noncomputable def forceI {β : Type} (i : Int) (k : Int → R β) : R β := Int.rec (motive := fun _ => R β) (fun n => forceN n fun n => k (.ofNat n)) (fun n => forceN n fun n => k (.negSucc n)) i
noncomputable def forceB {β : Type} (b : Bool) (k : Bool → R β) : R β := Bool.rec (motive := fun _ => R β) (k false) (k true) b

namespace Tr
variable {α : Type}
/-- by the recursor itself: the kernel reckons with it twice as fast as with a compiled match -/
noncomputable def get (t : Tr α) : Nat → Option α :=
  Tr.rec (motive := fun _ => Nat → Option α) (fun _ => none)
    (fun v _ _ gl gr n => Bool.rec (Bool.rec gr gl (Nat.beq (Nat.mod n 2) 1) (Nat.div (Nat.sub n 1) 2)) v (Nat.beq n 0)) t
noncomputable def oneK {β : Type} (a : Option α) (k : Nat) : Nat → (Tr α → R β) → R β :=
  Nat.rec (motive := fun _ => Nat → (Tr α → R β) → R β) (fun _ _ => none)
    (fun _ ih n c => Bool.rec (ih (Nat.div (Nat.sub n 1) 2) (Bool.rec (fun t => c (.node none .nil t)) (fun t => c (.node none t .nil)) (Nat.beq (Nat.mod n 2) 1))) (c (.node a .nil .nil)) (Nat.beq n 0)) k
/-- the trie with a at n, handed on -/
noncomputable def setK {β : Type} (a : Option α) (t : Tr α) : Nat → (Tr α → R β) → R β :=
  Tr.rec (motive := fun _ => Nat → (Tr α → R β) → R β) (oneK a 64)
    (fun v l r sl sr n c => Bool.rec (Bool.rec (sr (Nat.div (Nat.sub n 1) 2) fun t => c (.node v l t)) (sl (Nat.div (Nat.sub n 1) 2) fun t => c (.node v t r)) (Nat.beq (Nat.mod n 2) 1)) (c (.node a l r)) (Nat.beq n 0)) t
end Tr
--END

/-- a value over labels; bad: nothing is known of it; undef: the model's undef; sym c: the given int, and c -/
inductive AV where
  | bad
  | undef
  | bool (b : Bool)
  | int (k : IntKind) (n : Int)
  | sym (c : Int)
  | float (k : FloatKind) (n : Nat)
  | str (t : Tr Nat) (o n : Nat)
  | ptr (l o : Nat)
  | pnil
  | sl (l o n : Nat) (c : Option Nat)
  | snil
  | map (l : Nat)
  | mnil
  | func (f : FuncId) (xs : List AV)
  | nilFunc
  | nilIface
  | agg (xs : List AV)
  | tup (xs : List AV)

/-- what lies at a label: so many cells; a row that was made by append, of which so many cells are known; a map -/
inductive AO where
  | cells (c : Tr AV) (n : Nat) (e : TypeId)
  | row (c : Tr AV) (n z : Nat) (e : TypeId)
  | map (es : List (AV × AV))

abbrev Hp := Tr AO
abbrev Tm := Tr AV
abbrev Ds := List (FuncId × List AV)

structure Env where
  P : Program
  lo : Int
  hi : Int
  noEscape : FuncId
  fromBits : FuncId

section
variable {β : Type}

noncomputable def forceL (l : List AV) (k : List AV → R β) : R β :=
  listRec (γ := (List AV → R β) → R β) (fun k => k []) (fun a ih k => ih fun l => k (a :: l)) l k
noncomputable def forceA (v : AV) (k : AV → R β) : R β :=
  match v with
  | .bool b => forceB b fun b => k (.bool b)
  | .int q n => forceI n fun n => k (.int q n)
  | .sym c => forceI c fun c => k (.sym c)
  | .float q n => forceN n fun n => k (.float q n)
  | v => k v
/-- a trie with the list's values from n on -/
noncomputable def fillK {α : Type} (l : List α) (t : Tr α) (n : Nat) (k : Tr α → R β) : R β :=
  listRec (γ := Tr α → Nat → R β) (fun t _ => k t) (fun a ih t n => Tr.setK (some a) t n fun t => forceN (Nat.succ n) fun n => ih t n) l t n
end

/-- how many -/
noncomputable def lenL {α : Type} (l : List α) : Nat := listRec Nat.zero (fun _ n => Nat.succ n) l

/-- the bytes of a constant -/
noncomputable def bytesTr (l : List UInt8) (k : Tr Nat → R AV) : R AV := fillK (l.map UInt8.toNat) .nil 0 k

noncomputable def ofV1 (v : Value) : AV :=
  match v with
  | .bool b => .bool b
  | .int k n => .int k n
  | .float k n => .float k n
  | .string s => (bytesTr s.data.toList fun t => some (.str t 0 (lenL s.data.toList))).getD .bad
  | .pointer none => .pnil
  | .slice none 0 0 => .snil
  | .map none => .mnil
  | .nilFunc => .nilFunc
  | .nilIface => .nilIface
  | _ => .bad
noncomputable def ofV (v : Value) : AV :=
  match v with
  | .agg xs => .agg (xs.toList.map ofV1)
  | v => ofV1 v

/-- a value's cells -/
def AV.cells (v : AV) : List AV :=
  match v with
  | .agg xs => xs
  | v => [v]
/-- is something known of it? -/
def AV.known (v : AV) : Bool :=
  match v with
  | .bad => false
  | _ => true
/-- a value of one cell, that is known -/
def AV.one (v : AV) : Bool :=
  match v with
  | .bad | .undef | .agg _ | .tup _ => false
  | _ => true
noncomputable def allOne (l : List AV) : Bool := listRec true (fun v b => ifB v.one b false) l

section
variable {β : Type}
noncomputable def evK (t : Tm) (x : Operand) (k : AV → R β) : R β :=
  Operand.rec (motive := fun _ => R β) (fun i => Option.rec (motive := fun _ => R β) (k .bad) k (t.get i)) (fun v => k (ofV v)) (fun _ => k .bad) (fun f => k (.func f [])) x
noncomputable def evsK (t : Tm) (l : List Operand) (k : List AV → R β) : R β :=
  listRec (γ := (List AV → R β) → R β) (fun k => k []) (fun x ih k => evK t x fun v => ih fun vs => k (v :: vs)) l k
noncomputable def evPs (t : Tm) (l : List (Nat × Operand)) (k : List (Nat × AV) → R β) : R β :=
  listRec (γ := (List (Nat × AV) → R β) → R β) (fun k => k []) (fun x ih k => evK t x.2 fun v => ih fun vs => k ((x.1, v) :: vs)) l k

/-! looking at a value -/
noncomputable def asPtr (v : AV) (k : Nat → Nat → R β) : R β := AV.casesOn (motive_1 := fun _ => R β) v none none (fun _ => none) (fun _ _ => none) (fun _ => none) (fun _ _ => none) (fun _ _ _ => none) k none (fun _ _ _ _ => none) none (fun _ => none) none (fun _ _ => none) none none (fun _ => none) (fun _ => none)
noncomputable def asBool' (v : AV) (k : Bool → R β) : R β := AV.casesOn (motive_1 := fun _ => R β) v none none k (fun _ _ => none) (fun _ => none) (fun _ _ => none) (fun _ _ _ => none) (fun _ _ => none) none (fun _ _ _ _ => none) none (fun _ => none) none (fun _ _ => none) none none (fun _ => none) (fun _ => none)
noncomputable def asAgg' (v : AV) (k : List AV → R β) : R β := AV.casesOn (motive_1 := fun _ => R β) v none none (fun _ => none) (fun _ _ => none) (fun _ => none) (fun _ _ => none) (fun _ _ _ => none) (fun _ _ => none) none (fun _ _ _ _ => none) none (fun _ => none) none (fun _ _ => none) none none k (fun _ => none)
noncomputable def asTup (v : AV) (k : List AV → R β) : R β := AV.casesOn (motive_1 := fun _ => R β) v none none (fun _ => none) (fun _ _ => none) (fun _ => none) (fun _ _ => none) (fun _ _ _ => none) (fun _ _ => none) none (fun _ _ _ _ => none) none (fun _ => none) none (fun _ _ => none) none none (fun _ => none) k
noncomputable def asMap (v : AV) (k : Nat → R β) : R β := AV.casesOn (motive_1 := fun _ => R β) v none none (fun _ => none) (fun _ _ => none) (fun _ => none) (fun _ _ => none) (fun _ _ _ => none) (fun _ _ => none) none (fun _ _ _ _ => none) none k none (fun _ _ => none) none none (fun _ => none) (fun _ => none)
noncomputable def asNat (v : AV) (k : Nat → R β) : R β := AV.casesOn (motive_1 := fun _ => R β) v none none (fun _ => none) (fun _ i => Int.casesOn (motive := fun _ => R β) i k (fun _ => none)) (fun _ => none) (fun _ _ => none) (fun _ _ _ => none) (fun _ _ => none) none (fun _ _ _ _ => none) none (fun _ => none) none (fun _ _ => none) none none (fun _ => none) (fun _ => none)
noncomputable def asStr (v : AV) (k : Tr Nat → Nat → Nat → R β) : R β := AV.casesOn (motive_1 := fun _ => R β) v none none (fun _ => none) (fun _ _ => none) (fun _ => none) (fun _ _ => none) k (fun _ _ => none) none (fun _ _ _ _ => none) none (fun _ => none) none (fun _ _ => none) none none (fun _ => none) (fun _ => none)
noncomputable def asFunc (v : AV) (k : FuncId → List AV → R β) : R β := AV.casesOn (motive_1 := fun _ => R β) v none none (fun _ => none) (fun _ _ => none) (fun _ => none) (fun _ _ => none) (fun _ _ _ => none) (fun _ _ => none) none (fun _ _ _ _ => none) none (fun _ => none) none k none none (fun _ => none) (fun _ => none)
end

/-- the bytes of a string -/
noncomputable def bytesOf (t : Tr Nat) (o n : Nat) : Option (List Nat) :=
  Nat.rec (motive := fun _ => Nat → Option (List Nat)) (fun _ => some []) (fun _ ih o => ob (t.get o) fun b => ob (ih (Nat.succ o)) fun l => some (b :: l)) n o
noncomputable def strOf (l : List Nat) : Option AV := fillK l .nil 0 fun t => forceN (lenL l) fun n => some (.str t 0 n)
noncomputable def eqNats (a b : List Nat) : Bool :=
  listRec (γ := List Nat → Bool) (fun b => b.isEmpty) (fun x ih b => match b with | [] => false | y :: b => ifB (Nat.beq x y) (ih b) false) a b

/-- cell i of an object -/
noncomputable def cellAt (o : AO) (i : Nat) : Option AV :=
  match o with
  | .cells c n _ => gd (Nat.ble (Nat.succ i) n) (c.get i)
  | .row c n _ _ => gd (Nat.ble (Nat.succ i) n) (c.get i)
  | .map _ => none
noncomputable def readN (o : AO) (i n : Nat) : Option (List AV) :=
  Nat.rec (motive := fun _ => Nat → Option (List AV)) (fun _ => some []) (fun _ ih i => ob (cellAt o i) fun v => ob (ih (Nat.succ i)) fun l => some (v :: l)) n i

namespace Env
variable (E : Env)
def desc (t : TypeId) : Option TypeDesc := E.P.underlying t
def size (t : TypeId) : Option Nat := (E.P.info? t).map (·.size)
def bytes (t : TypeId) : Option Nat := (E.P.info? t).map (·.bytes)
def zero (t : TypeId) : Option Value := (E.P.info? t).bind (·.zero)
def aggB (t : TypeId) : Option Bool := (E.desc t).map fun d => match d with | .struct _ | .array _ _ => true | _ => false
/-- of how many cells a variable is; none: of one, that is no aggregate -/
def shapeT (t : TypeId) : Option (Option Nat) := match E.aggB t, E.size t with
  | some true, some n => some (some n)
  | some false, some 1 => some none
  | _, _ => none
def sliceE (t : TypeId) : Option (TypeId × Nat) := match E.desc t with
  | some (.slice e) => (E.size e).map fun n => (e, n)
  | _ => none
def fieldsT (t : TypeId) : Option (List Field) := match E.desc t with
  | some (.struct fs) => some fs.toList
  | _ => none
/-- a field's place, if it is of some size -/
def fieldOff (t : TypeId) (i : Nat) : Option Nat := match (E.fieldsT t).bind (·[i]?) with
  | some f => match E.size f.type with | some (_ + 1) => some f.offset | _ => none
  | none => none

noncomputable def readT (t : TypeId) (ob' : AO) (o : Nat) : Option AV :=
  ob (E.shapeT t) fun s => Option.casesOn s (cellAt ob' o) fun n => ob (readN ob' o n) fun l => some (.agg l)
noncomputable def loadV (h : Hp) (t : TypeId) (v : AV) : Option AV :=
  asPtr v fun l o => ob (h.get l) fun b => E.readT t b o
end Env

section
variable {β : Type}
/-- cells written from o on -/
noncomputable def store (h : Hp) (l o : Nat) (vs : List AV) (k : Hp → R β) : R β :=
  gd (allOne vs) <| ob (h.get l) fun b => match b with
    | .cells c n e => gd (Nat.ble (Nat.add o (lenL vs)) n) <| fillK vs c o fun c => Tr.setK (some (.cells c n e)) h l k
    | .row c n z e => gd (Nat.ble (Nat.add o (lenL vs)) n) <| fillK vs c o fun c => Tr.setK (some (.row c n z e)) h l k
    | .map _ => none
end

/-! operators -/
def intMin (k : IntKind) : Int := k.min
/-- a number that is one of its kind -/
noncomputable def intR (k : IntKind) (n : Int) : Option AV := gd (decide (k.wrap n = n)) (some (.int k n))
noncomputable def intOp (op : BinOp) (k : IntKind) (a b : Int) : Option AV :=
  match op with
  | .add => intR k (a + b)
  | .sub => intR k (a - b)
  | .mul => intR k (a * b)
  | .eql => some (.bool (a == b))
  | .neq => some (.bool (a != b))
  | .lss => some (.bool (a < b))
  | .leq => some (.bool (a ≤ b))
  | .gtr => some (.bool (a > b))
  | .geq => some (.bool (a ≥ b))
  | _ => none
/-- the given int and c against n -/
noncomputable def symOp (E : Env) (op : BinOp) (c n : Int) : Option AV :=
  match op with
  | .eql => ifB (decide (n < E.lo + c)) (some (.bool false)) <| ifB (decide (E.hi + c < n)) (some (.bool false)) <| gd (decide (E.lo = E.hi)) (some (.bool true))
  | .neq => ifB (decide (n < E.lo + c)) (some (.bool true)) <| ifB (decide (E.hi + c < n)) (some (.bool true)) <| gd (decide (E.lo = E.hi)) (some (.bool false))
  | .lss => ifB (decide (E.hi + c < n)) (some (.bool true)) <| gd (decide (n ≤ E.lo + c)) (some (.bool false))
  | .leq => ifB (decide (E.hi + c ≤ n)) (some (.bool true)) <| gd (decide (n < E.lo + c)) (some (.bool false))
  | .gtr => ifB (decide (n < E.lo + c)) (some (.bool true)) <| gd (decide (E.hi + c ≤ n)) (some (.bool false))
  | .geq => ifB (decide (n ≤ E.lo + c)) (some (.bool true)) <| gd (decide (E.hi + c < n)) (some (.bool false))
  | .add => gd (decide (-1000000 < c + n)) <| gd (decide (c + n < 1000000)) <| some (.sym (c + n))
  | .sub => gd (decide (-1000000 < c - n)) <| gd (decide (c - n < 1000000)) <| some (.sym (c - n))
  | _ => none
noncomputable def symSym (op : BinOp) (c d : Int) : Option AV :=
  match op with
  | .eql => some (.bool (c == d))
  | .neq => some (.bool (c != d))
  | _ => none
noncomputable def strOp (op : BinOp) (t : Tr Nat) (o n : Nat) (t' : Tr Nat) (o' n' : Nat) : Option AV :=
  match op with
  | .eql => ifB (Nat.beq n n') (ob (bytesOf t o n) fun a => ob (bytesOf t' o' n') fun b => some (.bool (eqNats a b))) (some (.bool false))
  | .neq => ifB (Nat.beq n n') (ob (bytesOf t o n) fun a => ob (bytesOf t' o' n') fun b => some (.bool (!eqNats a b))) (some (.bool true))
  | .add => gd (Nat.ble (Nat.add n n') 1000000) <| ob (bytesOf t o n) fun a => ob (bytesOf t' o' n') fun b => strOf (a ++ b)
  | _ => none
noncomputable def floatOp (op : BinOp) (k : FloatKind) (a b : Nat) : Option AV :=
  match op with
  | .neq => some (.bool (k.format.order a b != some .eq))
  | .leq => some (.bool (k.format.order a b == some .lt || k.format.order a b == some .eq))
  | .geq => some (.bool (k.format.order a b == some .gt || k.format.order a b == some .eq))
  | _ => none
def isEql (op : BinOp) (b : Bool) : Option AV :=
  match op with
  | .eql => some (.bool b)
  | .neq => some (.bool (!b))
  | _ => none
/-- two pointers: to one object, or to two that are no rows -/
noncomputable def ptrEq (h : Hp) (l o l' o' : Nat) : Option Bool :=
  ifB (Nat.beq l l') (some (Nat.beq o o')) <| ob (h.get l) fun a => ob (h.get l') fun b => match a, b with
    | .cells _ _ _, .cells _ _ _ => some false
    | _, _ => none
/-- a pointer's type, to something of some size -/
def ptrT (E : Env) (t : TypeId) : Bool := match E.desc t with
  | some (.pointer e) => match E.size e with | some (_ + 1) => true | _ => false
  | _ => false
noncomputable def binopPtr (E : Env) (h : Hp) (op : BinOp) (t : TypeId) (l o : Nat) (y : AV) : Option AV :=
  gd (ptrT E t) <| match y with
  | .ptr l' o' => ob (ptrEq h l o l' o') fun b => isEql op b
  | .pnil => isEql op false
  | _ => none
noncomputable def binopNil (E : Env) (op : BinOp) (t : TypeId) (y : AV) : Option AV :=
  gd (ptrT E t) <| match y with
  | .pnil => isEql op true
  | .ptr _ _ => isEql op false
  | _ => none
def boolT (E : Env) (t : TypeId) : Bool := match E.desc t with | some .bool => true | _ => false
def ifaceT (E : Env) (t : TypeId) : Bool := match E.desc t with | some (.interface _) => true | _ => false
def isC (x : Operand) : Bool := match x with | .const _ => true | _ => false
noncomputable def binopInt (op : BinOp) (k : IntKind) (a : Int) (y : AV) : Option AV :=
  match y with
  | .int k' b => gd (decide (k = k')) (intOp op k a b)
  | _ => none
noncomputable def binopSym (E : Env) (op : BinOp) (c : Int) (y : AV) : Option AV :=
  match y with
  | .int k b => gd (decide (k = .i64)) (symOp E op c b)
  | .sym d => symSym op c d
  | _ => none
noncomputable def binopV (E : Env) (h : Hp) (op : BinOp) (t : TypeId) (c : Bool) (x y : AV) : Option AV :=
  match x with
  | .int k a => binopInt op k a y
  | .str s o n => asStr y fun t' o' n' => strOp op s o n t' o' n'
  | .ptr l o => binopPtr E h op t l o y
  | .pnil => binopNil E op t y
  | .sym c => binopSym E op c y
  | .bool a => gd (boolT E t) <| asBool' y fun b => isEql op (a == b)
  | .float k a => match y with | .float k' b => gd (decide (k = k')) (floatOp op k a b) | _ => none
  | .nilIface => gd (ifaceT E t) <| gd c <| match y with | .nilIface => isEql op true | _ => none
  | _ => none

/-- a pointer to a whole object of the type -/
noncomputable def wholeP (E : Env) (h : Hp) (l o : Nat) (t : TypeId) : Option AV :=
  ob (h.get l) fun b => match b with
    | .cells _ n e => gd (Nat.beq o 0) <| gd (Nat.ble 1 n) <| gd (Nat.beq e t) <| ob (E.size t) fun s => gd (Nat.beq s n) (some (.ptr l o))
    | _ => none
noncomputable def convV (E : Env) (h : Hp) (src dst : TypeId) (x : AV) : Option AV :=
  ob (E.desc src) fun s => ob (E.desc dst) fun d => match d, x with
    | .int k, .int _ n => intR k n
    | .float k, .int _ n => some (.float k (k.nearest n))
    | .unsafePointer, .ptr l o => match s with | .pointer t => wholeP E h l o t | _ => none
    | .pointer t, .ptr l o => match s with | .unsafePointer => wholeP E h l o t | _ => none
    | _, _ => none

/-! parts of values -/
noncomputable def nthL {α : Type} (l : List α) (i : Nat) : Option α :=
  listRec (γ := Nat → Option α) (fun _ => none) (fun a ih i => match i with | 0 => some a | i + 1 => ih i) l i
def placeT (E : Env) (t : TypeId) (i : Nat) : Option (Nat × Nat) :=
  match E.desc t with
  | some (.struct fs) => (fs.toList[i]?).bind fun f => (E.size f.type).map fun n => (f.offset, n)
  | some (.array _ e) => (E.size e).map fun n => (i * n, n)
  | _ => none
/-- the list with xs from o on -/
noncomputable def putL (xs l : List AV) (o : Nat) : List AV :=
  listRec (γ := List AV → Nat → List AV) (fun l _ => l) (fun x ih l o => ih (l.set o x) (Nat.succ o)) xs l o
noncomputable def fillL (pl : Nat → Option (Nat × Nat)) (ps : List (Nat × AV)) (l : List AV) : Option (List AV) :=
  listRec (γ := List AV → Option (List AV)) (fun l => some l) (fun p ih l => gd p.2.known <| ob (pl p.1) fun q =>
    gd (Nat.beq (lenL p.2.cells) q.2) <| gd (Nat.ble (Nat.add q.1 (lenL p.2.cells)) (lenL l)) <| ih (putL p.2.cells l q.1)) ps l
noncomputable def rep (z : List AV) (n : Nat) : List AV := Nat.rec (motive := fun _ => List AV) [] (fun _ ih => z ++ ih) n
noncomputable def partV (E : Env) (t : TypeId) (xs : List AV) (o : Nat) : Option AV :=
  ob (E.shapeT t) fun s => Option.casesOn s (nthL xs o) fun n => some (.agg ((xs.drop o).take n))
end Go.Proofs.YtgedmmmgkfehjaaGreatDoor
