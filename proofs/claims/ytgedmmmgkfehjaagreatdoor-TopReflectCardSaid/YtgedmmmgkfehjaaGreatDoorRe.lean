/- The reckoner's operations, regions and functions. -/
import Derived.Test.YtgedmmmgkfehjaaGreatDoorRd
namespace Go.Proofs.YtgedmmmgkfehjaaGreatDoor

section
variable {β : Type} (E : Env)

/-! operations that look at their operands, and read -/
abbrev Pf (β : Type) := Tm → Hp → (AV → R β) → R β

noncomputable def moveF (x : Operand) : Pf β := fun t _ k => evK t x k
noncomputable def pickF (c a b : Operand) : Pf β := fun t _ k => evK t c fun v => asBool' v fun q => ifB q (evK t a k) (evK t b k)
noncomputable def loadF (ty : TypeId) (a : Operand) : Pf β := fun t h k => evK t a fun v => ob (E.loadV h ty v) k
noncomputable def nilF (x : Operand) : Pf β := fun t _ k => evK t x fun v => asPtr v fun l o => k (.ptr l o)
noncomputable def binF (op : BinOp) (ty : TypeId) (x y : Operand) : Pf β := fun t h k =>
  evK t x fun a => evK t y fun b => ob (binopV E h op ty (isC x || isC y) a b) fun v => forceA v k
noncomputable def notF (op : UnOp) (x : Operand) : Pf β := fun t _ k => match op with
  | .not => evK t x fun v => asBool' v fun b => forceB (!b) fun b => k (.bool b)
  | _ => none
noncomputable def convF (s d : TypeId) (x : Operand) : Pf β := fun t h k => evK t x fun v => ob (convV E h s d v) fun v => forceA v k
noncomputable def funcF (fn : Fn) (first caps : Array Operand) : Pf β := fun t _ k => match fn with
  | .func f => gd first.isEmpty <| evsK t caps.toList fun vs => k (.func f vs)
  | _ => none
/-- all fields' sizes are told -/
def structOK (E : Env) (t : TypeId) : Bool := match E.desc t with
  | some (.struct fs) => fs.toList.all fun f => (E.size f.type).isSome
  | some (.array _ e) => (E.size e).isSome
  | _ => false
noncomputable def buildF (ty : TypeId) (ps : Array (Nat × Operand)) : Pf β := fun t _ k =>
  gd (structOK E ty) <| ob (E.zero ty) fun z => evPs t ps.toList fun vs => ob (fillL (placeT E ty) vs (ofV z).cells) fun l => forceL l fun l => k (.agg l)
noncomputable def fieldAddrF (ty : TypeId) (x : Operand) (i : Nat) : Pf β := fun t _ k =>
  evK t x fun v => asPtr v fun l o => ob (E.fieldOff ty i) fun d => forceN (Nat.add o d) fun o => k (.ptr l o)
noncomputable def fieldF (ty : TypeId) (x : Operand) (i : Nat) : Pf β := fun t _ k =>
  evK t x fun v => asAgg' v fun xs => ob (E.fieldsT ty) fun fs => ob (fs[i]?) fun f => ob (partV E f.type xs f.offset) k
noncomputable def asSl (v : AV) (k : Nat → Nat → Nat → Option Nat → R β) : R β := AV.casesOn (motive_1 := fun _ => R β) v none none (fun _ => none) (fun _ _ => none) (fun _ => none) (fun _ _ => none) (fun _ _ _ => none) (fun _ _ => none) none k none (fun _ => none) none (fun _ _ => none) none none (fun _ => none) (fun _ => none)
noncomputable def indexAddrF (ty : TypeId) (x i : Operand) : Pf β := fun t _ k =>
  evK t x fun v => asSl v fun l o n _ => evK t i fun iv => asNat iv fun i => gd (Nat.ble (Nat.succ i) n) <| ob (E.sliceE ty) fun p => forceN (Nat.add o (Nat.mul i p.2)) fun o => k (.ptr l o)
def stringT (E : Env) (t : TypeId) : Bool := match E.desc t with | some .string => true | _ => false
noncomputable def indexF (ty : TypeId) (x i : Operand) : Pf β := fun t _ k =>
  gd (stringT E ty) <| evK t x fun v => asStr v fun tr o n => evK t i fun iv => asNat iv fun i => gd (Nat.ble (Nat.succ i) n) <| ob (tr.get (Nat.add o i)) fun b => k (.int .u8 (.ofNat b))
/-- a bound that may be missing -/
noncomputable def boundK (t : Tm) (x : Option Operand) (d : Nat) (k : Nat → R β) : R β := Option.casesOn x (k d) fun x => evK t x fun v => asNat v k
noncomputable def sliceF (ty : TypeId) (x : Operand) (lo hi mx : Option Operand) : Pf β := fun t _ k =>
  evK t x fun v => match v with
  | .str tr o n => gd (stringT E ty) <| gd mx.isNone <| boundK t lo 0 fun a => boundK t hi n fun b => gd (Nat.ble a b) <| gd (Nat.ble b n) <| forceN (Nat.add o a) fun o => forceN (Nat.sub b a) fun n => k (.str tr o n)
  | .sl l o n (some c) => gd (mx.isNone || hi.isSome) <| ob (E.sliceE ty) fun p => boundK t mx c fun m => boundK t lo 0 fun a => boundK t hi n fun b =>
      gd (Nat.ble a b) <| gd (Nat.ble b m) <| gd (Nat.ble m c) <| forceN (ifB (Nat.beq m a) o (Nat.add o (Nat.mul a p.2))) fun o => forceN (Nat.sub b a) fun n => forceN (Nat.sub m a) fun c => k (.sl l o n (some c))
  | .sl l o n none => gd (mx.isNone || hi.isSome) <| ob (E.sliceE ty) fun p => boundK t lo 0 fun a => boundK t hi n fun b => gd (Nat.ble a b) <| gd (Nat.ble b n) <| Option.casesOn mx (gd (Nat.beq a 0) <| k (.sl l o b none)) fun mx =>
      evK t mx fun v => asNat v fun m => gd (Nat.ble b m) <| gd (Nat.ble m n) <| forceN (ifB (Nat.beq m a) o (Nat.add o (Nat.mul a p.2))) fun o => forceN (Nat.sub b a) fun n => forceN (Nat.sub m a) fun c => k (.sl l o n (some c))
  | _ => none
/-- two ints, the same? -/
noncomputable def keyEq (E : Env) (x y : AV) : Option Bool := match x, y with
  | .int .i64 a, .int .i64 b => some (a == b)
  | .sym c, .sym d => some (c == d)
  | .sym c, .int .i64 n => ob (symOp E .eql c n) fun v => asBool' v some
  | .int .i64 n, .sym c => ob (symOp E .eql c n) fun v => asBool' v some
  | _, _ => none
/-- keys are three ints -/
noncomputable def key3 (E : Env) (xs ys : List AV) : Option Bool := match xs, ys with
  | [a, b, c], [a', b', c'] => ob (keyEq E a a') fun p => ob (keyEq E b b') fun q => ob (keyEq E c c') fun r => some (p && (q && r))
  | _, _ => none
/-- the value under a key; none: it is not told; some none: there is none -/
noncomputable def findK (es : List (AV × AV)) (key : List AV) : Option (Option AV) :=
  listRec (γ := Option (Option AV)) (some none) (fun e ih => asAgg' e.1 fun ks => ob (key3 E key ks) fun b => ifB b (some (some e.2)) ih) es
/-- a map's type, whose keys are three ints -/
def mapT (t : TypeId) : Option TypeId := match E.desc t with
  | some (.map k e) => match E.desc k with
    | some (.array 3 i) => match E.desc i, E.size i with
      | some (.int .i64), some 1 => some e
      | _, _ => none
    | _ => none
  | _ => none
noncomputable def lookupF (ty : TypeId) (x i : Operand) (ok : Bool) : Pf β := fun t h k =>
  ob (mapT E ty) fun e => evK t x fun v => asMap v fun l => ob (h.get l) fun b => match b with
    | .map es => evK t i fun key => asAgg' key fun ks => ob (key3 E ks ks) fun _ => ob (findK E es ks) fun r => Option.casesOn r
        (ob (E.zero e) fun z => k (ifB ok (.tup [ofV z, .bool false]) (ofV z))) fun v => k (ifB ok (.tup [v, .bool true]) v)
    | _ => none
noncomputable def extractF (x : Operand) (i : Nat) : Pf β := fun t _ k => evK t x fun v => asTup v fun xs => ob (nthL xs i) k
/-- len of what bears its length -/
noncomputable def lenF (ty : TypeId) (x : Operand) : Pf β := fun t _ k => evK t x fun v => match v with
  | .str _ _ n => gd (stringT E ty) <| k (.int .i64 (.ofNat n))
  | .sl _ _ n _ => ob (E.sliceE ty) fun _ => k (.int .i64 (.ofNat n))
  | .snil => ob (E.sliceE ty) fun _ => k (.int .i64 (.ofNat 0))
  | _ => none
noncomputable def maxF (mx : Bool) (x y : Operand) : Pf β := fun t _ k => evK t x fun v => evK t y fun u => match v, u with
  | .int .i64 a, .int .i64 b => k (ifB (decide (a < b)) (ifB mx u v) (ifB mx v u))
  | .sym a, .sym b => k (ifB (decide (a < b)) (ifB mx u v) (ifB mx v u))
  | _, _ => none
noncomputable def sliceDataF (x : Operand) : Pf β := fun t h k => evK t x fun v => asSl v fun l o _ c => gd c.isNone <| ob (h.get l) fun b => match b with
  | .row _ m _ _ => gd (Nat.ble 1 m) <| k (.ptr l o)
  | _ => none
noncomputable def builtinF (b : Builtin) (args : Array Operand) (tys : Array TypeId) : Pf β := match b, args.toList, tys.toList with
  | .len, [x], [ty] => lenF E ty x
  | .max, [x, y], _ => maxF true x y
  | .min, [x, y], _ => maxF false x y
  | .unsafeSliceData, [x], _ => sliceDataF x
  | _, _, _ => fun _ _ _ => none
/-- a builtin's call -/
noncomputable def callB {γ : Type} (c : Call) (d : γ) (f : Builtin → Array Operand → Array TypeId → γ) : γ := Call.rec (motive := fun _ => γ) (fun callee args tys => Callee.rec (motive := fun _ => γ) (fun _ => d) (fun _ _ => d) (fun b => f b args tys) callee) c
noncomputable def pureF (op : Op) : Pf β := Op.rec (motive := fun _ => Pf β) moveF moveF pickF (fun _ => fun _ _ _ => none) (fun _ _ => fun _ _ _ => none) (buildF E) (fun _ _ _ => fun _ _ _ => none) (fun _ _ _ _ => fun _ _ _ => none) (loadF E) (fun _ _ _ => fun _ _ _ => none) (fun _ => fun _ _ _ => none) (fun _ => fun _ _ _ => none) nilF (fun op ty x y _ => binF E op ty x y) (fun op _ x => notF op x) (convF E) (fun _ _ => fun _ _ _ => none) (fun _ _ => fun _ _ _ => none) funcF (fun _ _ => fun _ _ _ => none) (fun _ _ => fun _ _ _ => none) (fun _ _ _ => fun _ _ _ => none) (sliceF E) (fieldAddrF E) (fieldF E) (indexAddrF E) (indexF E) (lookupF E) (fun _ _ _ _ => fun _ _ _ => none) (fun _ _ _ => fun _ _ _ => none) (fun _ _ _ _ => fun _ _ _ => none) (fun _ _ => fun _ _ _ => none) (fun _ _ => fun _ _ _ => none) (fun _ => fun _ _ _ => none) (fun _ _ _ _ => fun _ _ _ => none) extractF (fun c => callB c (fun _ _ _ => none) (builtinF E)) (fun _ => fun _ _ _ => none) (fun _ => fun _ _ _ => none) (fun _ => fun _ _ _ => none) (fun _ _ => fun _ _ _ => none) (fun _ _ _ => fun _ _ _ => none) (fun _ _ => fun _ _ _ => none) op

/-! operations that make an object: the object, and what points to it -/
abbrev Nf (β : Type) := Tm → (AO → (Nat → AV) → R β) → R β
noncomputable def cellsK (e : TypeId) (l : List AV) (k : AO → R β) : R β := fillK l .nil 0 fun c => forceN (lenL l) fun n => k (.cells c n e)
noncomputable def allocF (e : TypeId) : Nf β := fun _ k => ob (E.zero e) fun z => cellsK e (ofV z).cells fun o => k o fun l => .ptr l 0
noncomputable def boxF (e : TypeId) (x : Operand) : Nf β := fun t k => evK t x fun v => gd v.known <| cellsK e v.cells fun o => k o fun l => .ptr l 0
noncomputable def buildSliceF (ty : TypeId) (len : Nat) (ps : Array (Nat × Operand)) : Nf β := fun t k =>
  ob (E.sliceE ty) fun p => ob (E.zero p.1) fun z => gd (Nat.beq (lenL (ofV z).cells) p.2) <| gd (Nat.ble (Nat.mul len p.2) 1000000) <| evPs t ps.toList fun vs =>
    ob (fillL (fun i => some (Nat.mul i p.2, p.2)) vs (rep (ofV z).cells len)) fun l => cellsK p.1 l fun o => k o fun l => .sl l 0 len (some len)
noncomputable def makeMapF (r : Option Operand) : Nf β := fun _ k => Option.casesOn r (k (.map []) fun l => .map l) fun _ => none
noncomputable def makeSliceF (ty : TypeId) (x c : Operand) : Nf β := fun t k =>
  ob (E.sliceE ty) fun p => ob (E.zero p.1) fun z => gd (Nat.beq (lenL (ofV z).cells) p.2) <| ob (E.bytes p.1) fun by' => gd (Nat.ble by' 1000000) <|
    evK t x fun v => asNat v fun n => evK t c fun v => asNat v fun m => gd (Nat.ble n m) <| gd (Nat.ble m 1000000) <| cellsK p.1 (rep (ofV z).cells m) fun o => k o fun l => .sl l 0 n (some m)
noncomputable def newF (op : Op) : Nf β := Op.rec (motive := fun _ => Nf β) (fun _ => fun _ _ => none) (fun _ => fun _ _ => none) (fun _ _ _ => fun _ _ => none) (allocF E) boxF (fun _ _ => fun _ _ => none) (buildSliceF E) (fun _ _ _ _ => fun _ _ => none) (fun _ _ => fun _ _ => none) (fun _ _ _ => fun _ _ => none) (fun _ => fun _ _ => none) (fun _ => fun _ _ => none) (fun _ => fun _ _ => none) (fun _ _ _ _ _ => fun _ _ => none) (fun _ _ _ => fun _ _ => none) (fun _ _ _ => fun _ _ => none) (fun _ _ => fun _ _ => none) (fun _ _ => fun _ _ => none) (fun _ _ _ => fun _ _ => none) (fun _ r => makeMapF r) (fun _ _ => fun _ _ => none) (makeSliceF E) (fun _ _ _ _ _ => fun _ _ => none) (fun _ _ _ => fun _ _ => none) (fun _ _ _ => fun _ _ => none) (fun _ _ _ => fun _ _ => none) (fun _ _ _ => fun _ _ => none) (fun _ _ _ _ => fun _ _ => none) (fun _ _ _ _ => fun _ _ => none) (fun _ _ _ => fun _ _ => none) (fun _ _ _ _ => fun _ _ => none) (fun _ _ => fun _ _ => none) (fun _ _ => fun _ _ => none) (fun _ => fun _ _ => none) (fun _ _ _ _ => fun _ _ => none) (fun _ _ => fun _ _ => none) (fun _ => fun _ _ => none) (fun _ => fun _ _ => none) (fun _ => fun _ _ => none) (fun _ => fun _ _ => none) (fun _ _ => fun _ _ => none) (fun _ _ _ => fun _ _ => none) (fun _ _ => fun _ _ => none) op

/-! operations that write -/
abbrev Wf (β : Type) := Tm → Hp → Nat → (AV → Hp → Nat → R β) → R β
/-- a store's place and cells -/
noncomputable def storeK (ty : TypeId) (a x : Operand) (t : Tm) (k : Nat → Nat → List AV → R β) : R β :=
  evK t a fun v => asPtr v fun l o => evK t x fun u => ob (E.size ty) fun s => gd (Nat.beq (lenL u.cells) s) <| k l o u.cells
noncomputable def storeF (ty : TypeId) (a x : Operand) : Wf β := fun t h n k => storeK E ty a x t fun l o vs => store h l o vs fun h => k .undef h n
noncomputable def mapUpdateF (ty : TypeId) (m i x : Operand) : Wf β := fun t h n k =>
  ob (mapT E ty) fun _ => evK t m fun v => asMap v fun l => ob (h.get l) fun b => match b with
    | .map es => evK t i fun key => asAgg' key fun ks => ob (key3 E ks ks) fun _ => ob (findK E es ks) fun r => Option.casesOn r
        (evK t x fun v => Tr.setK (some (.map (es ++ [(.agg ks, v)]))) h l fun h => k .undef h n) fun _ => none
    | _ => none
/-- a new row -/
noncomputable def rowK (h : Hp) (n : Nat) (z : Nat) (e : TypeId) (len : Nat) (vs : List AV) (k : AV → Hp → Nat → R β) : R β :=
  fillK vs .nil 0 fun c => forceN (lenL vs) fun m => Tr.setK (some (.row c m z e)) h n fun h => forceN (Nat.succ n) fun n' => k (.sl n 0 len none) h n'
/-- append to a slice: z cells an element, cnt elements -/
noncomputable def appendK (h : Hp) (n : Nat) (z : Nat) (e : TypeId) (s : AV) (cnt : Nat) (vs : List AV) (k : AV → Hp → Nat → R β) : R β :=
  match s with
  | .snil => ifB (Nat.beq cnt 0) (k .snil h n) (rowK h n z e cnt vs k)
  | .sl l o m c => ifB (Nat.beq cnt 0) (k (.sl l o m c) h n) <| ob (h.get l) fun b => forceN (Nat.add m cnt) fun need => gd (Nat.ble need 1000000) <| Option.casesOn c
      (match b with
        | .row c q zz e' => gd (Nat.beq o 0) <| gd (Nat.beq z zz) <| gd (Nat.beq e e') <|
          ifB (Nat.ble (Nat.mul need z) q) (store h l (Nat.mul m z) vs fun h => k (.sl l 0 need none) h n) <|
          gd (Nat.beq (Nat.mul m z) q) <| gd (allOne vs) <| fillK vs c q fun c' => forceN (Nat.mul need z) fun q' => Tr.setK (some (.row c' q' z e)) h n fun h => Tr.setK none h l fun h => forceN (Nat.succ n) fun n' => k (.sl n 0 need none) h n'
        | _ => none)
      fun c => ifB (Nat.ble need c) (store h l (Nat.add o (Nat.mul m z)) vs fun h => k (.sl l o need (some c)) h n)
        (ob (readN b o (Nat.mul m z)) fun old => rowK h n z e need (old ++ vs) k)
  | _ => none
/-- what is appended: how many elements, their cells -/
noncomputable def moreK (h : Hp) (z : Nat) (x : AV) (k : Nat → List AV → R β) : R β := match x with
  | .snil => k 0 []
  | .sl l o m _ => ob (h.get l) fun b => ob (readN b o (Nat.mul m z)) fun vs => k m vs
  | .str tr o m => gd (Nat.beq z 1) <| ob (bytesOf tr o m) fun l => k m (l.map fun b => .int .u8 (.ofNat b))
  | _ => none
def sliceOrString (E : Env) (t : TypeId) : Bool := match E.desc t with | some (.slice _) | some .string => true | _ => false
noncomputable def appendF (s x : Operand) (ty tx : TypeId) : Wf β := fun t h n k =>
  ob (E.sliceE ty) fun p => gd (Nat.ble 1 p.2) <| ob (E.bytes p.1) fun by' => gd (Nat.ble by' 1000000) <| ob (E.zero p.1) fun z => gd (Nat.beq (lenL (ofV z).cells) p.2) <| gd (sliceOrString E tx) <|
  evK t s fun s => evK t x fun x => moreK h p.2 x fun cnt vs => gd (Nat.ble cnt 1000000) <| appendK h n p.2 p.1 s cnt vs k
def ptrTo (E : Env) (t : TypeId) : Option TypeId := match E.desc t with | some (.pointer e) => some e | _ => none
noncomputable def byteL (l : List AV) : Option (List Nat) :=
  listRec (γ := Option (List Nat)) (some []) (fun v ih => match v with | .int .u8 (.ofNat b) => gd (Nat.ble (Nat.succ b) 256) <| ob ih fun l => some (b :: l) | _ => none) l
noncomputable def unsafeStringF (p x : Operand) (ty : TypeId) : Wf β := fun t h n k =>
  ob (ptrTo E ty) fun e => gd (Nat.beq ((E.size e).getD 0) 1) <| evK t p fun v => asPtr v fun l o => evK t x fun v => asNat v fun m => gd (Nat.ble 1 m) <| gd (Nat.ble m 1000000) <| ob (h.get l) fun b => match b with
    | .row c q z e' => gd (Nat.beq z 1) <| gd (Nat.beq e e') <| ob (readN (.row c q z e') o m) fun vs => ob (byteL vs) fun bs => ob (strOf bs) fun s => Tr.setK none h l fun h => k s h n
    | _ => none
noncomputable def writeB (b : Builtin) (args : Array Operand) (tys : Array TypeId) : Wf β := match b, args.toList, tys.toList with
  | .append, [s, x], [ty, tx] => appendF E s x ty tx
  | .unsafeString, [p, x], (ty :: _) => unsafeStringF E p x ty
  | _, _, _ => fun _ _ _ _ => none
noncomputable def writeF (op : Op) : Wf β := Op.rec (motive := fun _ => Wf β) (fun _ => fun _ _ _ _ => none) (fun _ => fun _ _ _ _ => none) (fun _ _ _ => fun _ _ _ _ => none) (fun _ => fun _ _ _ _ => none) (fun _ _ => fun _ _ _ _ => none) (fun _ _ => fun _ _ _ _ => none) (fun _ _ _ => fun _ _ _ _ => none) (fun _ _ _ _ => fun _ _ _ _ => none) (fun _ _ => fun _ _ _ _ => none) (storeF E) (fun _ => fun _ _ _ _ => none) (fun _ => fun _ _ _ _ => none) (fun _ => fun _ _ _ _ => none) (fun _ _ _ _ _ => fun _ _ _ _ => none) (fun _ _ _ => fun _ _ _ _ => none) (fun _ _ _ => fun _ _ _ _ => none) (fun _ _ => fun _ _ _ _ => none) (fun _ _ => fun _ _ _ _ => none) (fun _ _ _ => fun _ _ _ _ => none) (fun _ _ => fun _ _ _ _ => none) (fun _ _ => fun _ _ _ _ => none) (fun _ _ _ => fun _ _ _ _ => none) (fun _ _ _ _ _ => fun _ _ _ _ => none) (fun _ _ _ => fun _ _ _ _ => none) (fun _ _ _ => fun _ _ _ _ => none) (fun _ _ _ => fun _ _ _ _ => none) (fun _ _ _ => fun _ _ _ _ => none) (fun _ _ _ _ => fun _ _ _ _ => none) (mapUpdateF E) (fun _ _ _ => fun _ _ _ _ => none) (fun _ _ _ _ => fun _ _ _ _ => none) (fun _ _ => fun _ _ _ _ => none) (fun _ _ => fun _ _ _ _ => none) (fun _ => fun _ _ _ _ => none) (fun _ _ _ _ => fun _ _ _ _ => none) (fun _ _ => fun _ _ _ _ => none) (fun c => callB c (fun _ _ _ _ => none) (writeB E)) (fun _ => fun _ _ _ _ => none) (fun _ => fun _ _ _ _ => none) (fun _ => fun _ _ _ _ => none) (fun _ _ => fun _ _ _ _ => none) (fun _ _ _ => fun _ _ _ _ => none) (fun _ _ => fun _ _ _ _ => none) op

/-! what an operation is -/
inductive Cls where
  | pure | new | write | call | defer
def clsB (b : Builtin) : Cls := match b with | .append | .unsafeString => .write | _ => .pure
def cls (op : Op) : Cls := match op with
  | .alloc _ | .box .. | .buildSlice .. | .makeMap .. | .makeSlice .. => .new
  | .store .. | .mapUpdate .. => .write
  | .call { callee := .builtin b, .. } => clsB b
  | .call _ => .call
  | .defer _ => .defer
  | _ => .pure

inductive Ex where
  | normal
  | exit (id : Nat)
  | ret

/-- what a function with that number does: the reckoner one call deeper -/
abbrev CallF (β : Type) := FuncId → List AV → Hp → Nat → (AV → Hp → Nat → R β) → R β

/-- a slot written -/
noncomputable def put (m : Nat) (t : Tm) (d : Option Tmp) (v : AV) (k : Tm → R β) : R β := Option.rec (motive := fun _ => R β) (k t) (fun d => gd (Nat.ble (Nat.succ d) m) (Tr.setK (some v) t d k)) d

abbrev Sf (β : Type) := Tm → Hp → Nat → Ds → (Tm → Hp → Nat → Ds → R β) → R β

noncomputable def callOp (call : CallF β) (c : Call) (t : Tm) (h : Hp) (n : Nat) (k : AV → Hp → Nat → R β) : R β := match c.callee with
  | .value f => evK t f fun v => asFunc v fun f xs => evsK t c.args.toList fun vs => call f (vs ++ xs) h n k
  | _ => none
noncomputable def deferOp (c : Call) (t : Tm) (ds : Ds) (k : Ds → R β) : R β := match c.callee with
  | .value f => evK t f fun v => asFunc v fun f xs => evsK t c.args.toList fun vs => k ((f, vs ++ xs) :: ds)
  | _ => none

noncomputable def pS (m : Nat) (dst : Option Tmp) (f : Pf β) : Sf β := fun t h n ds k => f t h fun v => put m t dst v fun t => k t h n ds
noncomputable def nS (m : Nat) (dst : Option Tmp) (f : Nf β) : Sf β := fun t h n ds k => f t fun o mk => Tr.setK (some o) h n fun h => forceN (Nat.succ n) fun n' => put m t dst (mk n) fun t => k t h n' ds
noncomputable def wS (m : Nat) (dst : Option Tmp) (f : Wf β) : Sf β := fun t h n ds k => f t h n fun v h n => put m t dst v fun t => k t h n ds
noncomputable def cS (call : CallF β) (m : Nat) (dst : Option Tmp) (op : Op) : Sf β := fun t h n ds k => match op with
  | .call c => callOp call c t h n fun v h n => put m t dst v fun t => k t h n ds
  | _ => none
noncomputable def dS (m : Nat) (dst : Option Tmp) (op : Op) : Sf β := fun t h n ds k => match op with
  | .defer c => deferOp c t ds fun ds => put m t dst .undef fun t => k t h n ds
  | _ => none
noncomputable def operF (call : CallF β) (m : Nat) (dst : Option Tmp) (op : Op) : Sf β :=
  Cls.rec (motive := fun _ => Sf β) (pS m dst (pureF E op)) (nS m dst (newF E op)) (wS m dst (writeF E op)) (cS call m dst op) (dS m dst op) (cls op)

/-- is the operation carried out? -/
noncomputable def wantedG (ops : Array Oper) (t : Tm) (k : Bool → R β) (p : Nat × Bool) : R β := ob ((ops[p.1]?).bind (·.dst)) fun d => ob (t.get d) fun v => match v with
    | .bool b => forceB (b == p.2) k
    | .undef => k false
    | _ => none
noncomputable def wantedK (ops : Array Oper) (g : Option (Nat × Bool)) (t : Tm) (k : Bool → R β) : R β :=
  Option.rec (motive := fun _ => R β) (k true) (wantedG ops t k) g

noncomputable def oneF (call : CallF β) (m : Nat) (ops : Array Oper) (o : Oper) : Sf β :=
  Oper.rec (motive := fun _ => Sf β) (fun dst op _ _ _ guard t h n ds k => wantedK ops guard t fun b => ifB b (operF E call m dst op t h n ds k) (put m t dst .undef fun t => k t h n ds)) o

/-- a region in the text's order -/
noncomputable def seqF (call : CallF β) (m : Nat) (ops : Array Oper) (l : List Oper) : Sf β :=
  listRec (γ := Sf β) (fun t h n ds k => k t h n ds) (fun o ih t h n ds k => oneF E call m ops o t h n ds fun t h n ds => ih t h n ds k) l
end
end Go.Proofs.YtgedmmmgkfehjaaGreatDoor
