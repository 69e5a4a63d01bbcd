/- The reckoner's regions whose order is drawn, its control and its functions. -/
import Derived.Test.YtgedmmmgkfehjaaGreatDoorRe
namespace Go.Proofs.YtgedmmmgkfehjaaGreatDoor

/-! ### the order in which a region is reckoned: what does not write as early as its edges allow -/
/-- what lies before each operation, by binding edges: as bits -/
noncomputable def ancs (l : List Oper) : List Nat :=
  l.foldl (fun acc o => acc ++ [o.after.toList.foldl (fun s e => ifB (Region.binds .any e) (s ||| 2 ^ e.on ||| acc.getD e.on 0) s) 0]) []
def isW (op : Op) : Bool := match cls op with | .write | .call | .defer => true | _ => false
/-- does it look at memory? -/
def readsB (E : Env) (op : Op) : Bool := match op with
  | .load .. | .lookup .. => true
  | .binOp _ t .. => match E.desc t with | some (.pointer _) => true | _ => false
  | .call { callee := .builtin .unsafeSliceData, .. } => true
  | .convert s d _ => match E.desc s, E.desc d with | some .unsafePointer, _ => true | _, some .unsafePointer => true | _, _ => false
  | _ => false
/-- the slots that it looks at -/
def looks (ops : Array Oper) (o : Oper) : List Tmp := o.looksAt ops

inductive PI where
  | ev (i : Nat) (o : Oper)
  | wr (i : Nat) (o : Oper) (re : List (Oper × Nat))
  | pair (i j : Nat) (o p : Oper)

section
variable (E : Env) (ops : Array Oper) (A : List Nat)
def bitA (j i : Nat) : Bool := (A.getD j 0).testBit i
noncomputable def stageOf (ws : List (Oper × Nat)) (i : Nat) : Nat := (ws.filter fun w => bitA A i w.2).length
noncomputable def planGo (Z ws : List (Oper × Nat)) : List (Oper × Nat) → Nat → List PI
  | [], k => (Z.filter fun x => !isW x.1.op && Nat.beq (stageOf A ws x.2) k).map fun x => .ev x.2 x.1
  | w :: r, k => ((Z.filter fun x => !isW x.1.op && Nat.beq (stageOf A ws x.2) k).map fun x => .ev x.2 x.1) ++
      (match r with
        | [w'] => ifB (bitA A w'.2 w.2) (.wr w.2 w.1 (Z.filter fun x => readsB E x.1.op && Nat.ble (stageOf A ws x.2) k && !bitA A w.2 x.2) :: planGo Z ws r (k + 1)) [.pair w.2 w'.2 w.1 w'.1]
        | _ => .wr w.2 w.1 (Z.filter fun x => readsB E x.1.op && Nat.ble (stageOf A ws x.2) k && !bitA A w.2 x.2) :: planGo Z ws r (k + 1))
noncomputable def plan : List PI := planGo E A ops.toList.zipIdx (ops.toList.zipIdx.filter fun x => isW x.1.op) (ops.toList.zipIdx.filter fun x => isW x.1.op) 0

/-- all its binding edges are done -/
def edgesIn (D : Nat) (o : Oper) : Bool := o.after.toList.all fun e => !Region.binds .any e || D.testBit e.on
/-- every other writer of a slot that it looks at lies before it, or behind it -/
def looksOK (i : Nat) (o : Oper) : Bool := (looks ops o).all fun d => ops.toList.zipIdx.all fun x => x.1.dst != some d || x.2 == i || bitA A i x.2 || bitA A x.2 i
def looksAnc (i : Nat) (o : Oper) : Bool := (looks ops o).all fun d => ops.toList.zipIdx.all fun x => x.1.dst != some d || (x.2 != i && bitA A i x.2)
noncomputable def reOK (D : Nat) (i : Nat) (re : List (Oper × Nat)) : Bool :=
  ops.toList.zipIdx.all fun x => !(D.testBit x.2 && readsB E x.1.op && !bitA A i x.2) || (re.any (fun y => y.2 == x.2) && looksAnc ops A x.2 x.1)
def lastOK (last : Option Nat) (i : Nat) : Bool := last.all fun w => bitA A i w
noncomputable def chk : List PI → Nat → Option Nat → Bool
  | [], D, _ => Nat.beq D (2 ^ ops.size - 1)
  | .ev i o :: r, D, last => !isW o.op && !D.testBit i && edgesIn D o && lastOK A last i && looksOK ops A i o && chk r (D ||| 2 ^ i) last
  | .wr i o re :: r, D, last => isW o.op && !D.testBit i && edgesIn D o && lastOK A last i && looksOK ops A i o && reOK E ops A D i re && chk r (D ||| 2 ^ i) (some i)
  | .pair i j o p :: r, D, last => r.isEmpty && i != j && !D.testBit i && !D.testBit j && edgesIn D o && edgesIn D p && lastOK A last i && lastOK A last j && looksOK ops A i o && looksOK ops A j p &&
      o.guard.isNone && p.guard.isNone && o.dst.isNone && p.dst.isNone && reOK E ops A D i [] && reOK E ops A D j [] && Nat.beq (D ||| 2 ^ i ||| 2 ^ j) (2 ^ ops.size - 1)
/-- one writer a slot -/
def onceD : List (Oper × Nat) → Bool
  | [] => true
  | x :: r => (x.1.dst.all fun d => r.all fun y => y.1.dst != some d) && onceD r
def edgesLow : Bool := ops.toList.zipIdx.all fun x => x.1.after.toList.all fun e => !Region.binds .any e || e.on < x.2
end
noncomputable def planC (E : Env) (ops : Array Oper) : Option (List PI) :=
  gd (edgesLow ops) <| gd (onceD ops.toList.zipIdx) <| gd (chk E ops (ancs ops.toList) (plan E ops (ancs ops.toList)) 0 none) <| some (plan E ops (ancs ops.toList))

/-- the values are the same, as far as it is known -/
noncomputable def sameA (x y : AV) : Bool :=
  match x, y with
  | .bool a, .bool b => a == b
  | .int j a, .int k b => decide (j = k) && decide (a = b)
  | .sym a, .sym b => decide (a = b)
  | .float j a, .float k b => decide (j = k) && Nat.beq a b
  | .ptr a b, .ptr c d => Nat.beq a c && Nat.beq b d
  | .undef, .undef => true
  | .pnil, .pnil => true
  | .sl a b c (some d), .sl a' b' c' (some d') => Nat.beq a a' && Nat.beq b b' && Nat.beq c c' && Nat.beq d d'
  | .sl a b c none, .sl a' b' c' none => Nat.beq a a' && Nat.beq b b' && Nat.beq c c'
  | .snil, .snil => true
  | .map a, .map b => Nat.beq a b
  | .mnil, .mnil => true
  | .str t o n, .str t' o' n' => Nat.beq n n' && (match bytesOf t o n, bytesOf t' o' n' with | some a, some b => eqNats a b | _, _ => false)
  | _, _ => false
noncomputable def sameL (l l' : List AV) : Bool := listRec (γ := List AV → Bool) (fun b => b.isEmpty) (fun x ih b => match b with | [] => false | y :: b => ifB (sameA x y) (ih b) false) l l'
noncomputable def sameV (x y : AV) : Bool := match x, y with
  | .agg a, .agg b => sameL a b
  | x, y => sameA x y

section
variable {β : Type} (E : Env) (call : CallF β) (m : Nat) (ops : Array Oper)
noncomputable def evF (o : Oper) : Tm → Hp → Nat → (Tm → Hp → Nat → R β) → R β := fun t h n k =>
  wantedK ops o.guard t fun b => ifB b (match cls o.op with
    | .pure => pureF E o.op t (ifB (readsB E o.op) h .nil) fun v => put m t o.dst v fun t => k t h n
    | .new => gd (h.get n).isNone <| newF E o.op t fun ob' mk => Tr.setK (some ob') h n fun h => forceN (Nat.succ n) fun n' => put m t o.dst (mk n) fun t => k t h n'
    | _ => none) (put m t o.dst .undef fun t => k t h n)
/-- looked at again: the same -/
noncomputable def reF (re : List (Oper × Nat)) (t : Tm) (h : Hp) (k : R β) : R β :=
  listRec (γ := R β → R β) (fun k => k) (fun x ih k => wantedK ops x.1.guard t fun b => ifB b
    (pureF E x.1.op t h fun v => Option.casesOn x.1.dst (ih k) fun d => ob (t.get d) fun u => gd (sameV v u) (ih k))
    (Option.casesOn x.1.dst (ih k) fun d => ob (t.get d) fun u => gd (sameV .undef u) (ih k))) re k
/-- two stores, in whatever order -/
noncomputable def pairF (o p : Oper) (t : Tm) (h : Hp) (k : Hp → R β) : R β := match o.op, p.op with
  | .store ty a x, .store ty' a' x' => storeK E ty a x t fun l c vs => storeK E ty' a' x' t fun l' c' vs' => gd (!Nat.beq l l') <| store h l c vs fun h => store h l' c' vs' k
  | _, _ => none
noncomputable def planF (l : List PI) : Sf β :=
  listRec (γ := Sf β) (fun t h n ds k => k t h n ds) (fun x ih => match x with
    | .ev _ o => fun t h n ds k => evF E m ops o t h n fun t h n => ih t h n ds k
    | .wr _ o re => fun t h n ds k => oneF E call m ops o t h n ds fun t h n ds => reF E ops re t h (ih t h n ds k)
    | .pair _ _ o p => fun t h n ds k => pairF E o p t h fun h => ih t h n ds k) l
noncomputable def regF (draw : Bool) : Sf β := ifB draw (fun t h n ds k => ob (planC E ops) fun l => planF E call m ops l t h n ds k) (seqF E call m ops ops.toList)
end

abbrev Kx (β : Type) := Ex → Tm → Hp → Nat → Ds → R β
abbrev Cf (β : Type) := Tm → Hp → Nat → Ds → Kx β → R β
/-- rounds -/
--PRELUDE
noncomputable def loopN {β : Type} (f : Cf β) (fuel : Nat) : Cf β :=
  Nat.rec (motive := fun _ => Cf β) (fun _ _ _ _ _ => none)
    (fun _ ih t h n ds k => f t h n ds fun e t h n ds => Ex.casesOn e (ih t h n ds k) (fun j => k (.exit j) t h n ds) (k .ret t h n ds)) fuel
noncomputable def execF {β : Type} (E : Env) (call : CallF β) (fuel m : Nat) (c : Code) : Cf β :=
  Code.rec (motive := fun _ => Cf β)
    (fun t h n ds k => k .normal t h n ds)
    (fun _ ops d t h n ds k => regF E call m ops d t h n ds fun t h n ds => k .normal t h n ds)
    (fun _ _ fa fb t h n ds k => fa t h n ds fun e t h n ds => Ex.casesOn e (fb t h n ds k) (fun j => k (.exit j) t h n ds) (k .ret t h n ds))
    (fun c _ _ fa fb t h n ds k => evK t c fun v => asBool' v fun b => ifB b (fa t h n ds k) (fb t h n ds k))
    (fun id _ fb t h n ds k => fb t h n ds fun e t h n ds => Ex.casesOn e (k .normal t h n ds) (fun j => ifB (Nat.beq j id) (k .normal t h n ds) (k (.exit j) t h n ds)) (k .ret t h n ds))
    (fun _ fb => loopN fb fuel)
    (fun _ _ _ _ _ _ _ _ _ _ _ => none)
    (fun id t h n ds k => k (.exit id) t h n ds)
    (fun _ _ _ _ _ _ _ => none)
    (fun _ _ _ _ _ _ => none)
    (fun _ _ _ _ _ _ => none)
    (fun t h n ds k => k .ret t h n ds)
    (fun _ _ _ _ _ _ => none) c
--END

section
variable {β : Type} (E : Env)
noncomputable def resultL (h : Hp) (t : Tm) (l : List ResultVar) : Option (List AV) :=
  listRec (γ := Option (List AV)) (some []) (fun r ih => match r with
    | .tmp x => ob (t.get x) fun v => ob ih fun vs => some (v :: vs)
    | .cell a ty => ob (t.get a) fun p => ob (E.loadV h ty p) fun v => ob ih fun vs => some (v :: vs)) l
noncomputable def resultK (h : Hp) (t : Tm) (l : List ResultVar) (k : AV → R β) : R β := ob (resultL E h t l) fun vs => match vs with
  | [v] => k v
  | vs => k (.tup vs)

/-- a deferred function: no loops, no calls, and nothing to recover from -/
noncomputable def operD (m : Nat) (dst : Option Tmp) (op : Op) (t : Tm) (h : Hp) (n : Nat) (k : Tm → Hp → Nat → R β) : R β := match op with
  | .call { callee := .builtin .recover, args, .. } => gd args.isEmpty <| put m t dst .nilIface fun t => k t h n
  | op => match cls op with
    | .pure => pureF E op t h fun v => put m t dst v fun t => k t h n
    | .new => newF E op t fun o mk => Tr.setK (some o) h n fun h => forceN (Nat.succ n) fun n' => put m t dst (mk n) fun t => k t h n'
    | .write => writeF E op t h n fun v h n => put m t dst v fun t => k t h n
    | _ => none
noncomputable def seqD (m : Nat) (ops : Array Oper) (l : List Oper) : Tm → Hp → Nat → (Tm → Hp → Nat → R β) → R β :=
  listRec (γ := Tm → Hp → Nat → (Tm → Hp → Nat → R β) → R β) (fun t h n k => k t h n) (fun o ih t h n k =>
    wantedK ops o.guard t fun b => ifB b (operD E m o.dst o.op t h n fun t h n => ih t h n k) (put m t o.dst .undef fun t => ih t h n k)) l
abbrev Cd (β : Type) := Tm → Hp → Nat → (Ex → Tm → Hp → Nat → R β) → R β
--PRELUDE
noncomputable def execD (m : Nat) (c : Code) : Cd β :=
  Code.rec (motive := fun _ => Cd β)
    (fun t h n k => k .normal t h n)
    (fun _ ops d t h n k => gd (!d) <| seqD E m ops ops.toList t h n fun t h n => k .normal t h n)
    (fun _ _ fa fb t h n k => fa t h n fun e t h n => Ex.casesOn e (fb t h n k) (fun j => k (.exit j) t h n) (k .ret t h n))
    (fun c _ _ fa fb t h n k => evK t c fun v => asBool' v fun b => ifB b (fa t h n k) (fb t h n k))
    (fun _ _ _ _ _ _ _ => none)
    (fun _ _ _ _ _ _ => none)
    (fun _ _ _ _ _ _ _ _ _ _ => none)
    (fun _ _ _ _ _ => none)
    (fun _ _ _ _ _ _ => none)
    (fun _ _ _ _ _ => none)
    (fun _ _ _ _ _ => none)
    (fun t h n k => k .ret t h n)
    (fun _ _ _ _ _ => none) c
--END

noncomputable def argsK (m : Nat) (xs : List AV) (k : Tm → R β) : R β := gd (Nat.ble (lenL xs) m) <| fillK xs .nil 0 k

/-- a deferred function's call -/
noncomputable def callD (f : FuncId) (xs : List AV) (h : Hp) (n : Nat) (k : Hp → Nat → R β) : R β :=
  ob (E.P.funcs[f]?) fun fn => ob fn.body fun c => gd (fn.name != "runtime.NumGoroutine") <| argsK fn.ntmps xs fun t => execD E fn.ntmps c t h n fun e t h n => Ex.casesOn e (resultK E h t fn.results.toList fun _ => k h n) (fun _ => none) (resultK E h t fn.results.toList fun _ => k h n)
noncomputable def leaveF (fn : Func) (t : Tm) (ds : Ds) (h : Hp) (n : Nat) (k : AV → Hp → Nat → R β) : R β :=
  listRec (γ := Hp → Nat → R β) (fun h n => resultK E h t fn.results.toList fun v => k v h n) (fun d ih h n => callD E d.1 d.2 h n ih) ds h n

/-- a call, what it calls being reckoned by 'call' -/
noncomputable def stepF (call : CallF β) : CallF β := fun f xs h n k =>
  ob (E.P.funcs[f]?) fun fn => Option.casesOn fn.body
    (ifB (Nat.beq f E.noEscape) (match xs with | [x] => k x h n | _ => none) <|
     gd (Nat.beq f E.fromBits) (match xs with | [.int .u64 (.ofNat b)] => k (.float .f64 b) h n | _ => none))
    fun c => gd (fn.name != "runtime.NumGoroutine") <| argsK fn.ntmps xs fun t => execF E call 1000000 fn.ntmps c t h n [] fun e t h n ds =>
      Ex.casesOn e (leaveF E fn t ds h n k) (fun _ => none) (leaveF E fn t ds h n k)
--PRELUDE
noncomputable def runF (d : Nat) : CallF β := Nat.rec (motive := fun _ => CallF β) (fun _ _ _ _ _ => none) (fun _ ih => stepF E ih) d
--END
end
end Go.Proofs.YtgedmmmgkfehjaaGreatDoor
