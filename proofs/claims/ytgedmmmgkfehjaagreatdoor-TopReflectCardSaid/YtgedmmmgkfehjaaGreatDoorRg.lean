/- Calls that were reckoned beforehand: what is asked of them, and the reckoner that looks them up. -/
import Derived.Test.YtgedmmmgkfehjaaGreatDoorRf
namespace Go.Proofs.YtgedmmmgkfehjaaGreatDoor

noncomputable def eqOpt {α : Type} (eq : α → α → Bool) (x y : Option α) : Bool :=
  match x, y with
  | none, none => true
  | some a, some b => eq a b
  | _, _ => false
noncomputable def eqTr {α : Type} (eq : α → α → Bool) (t : Tr α) : Tr α → Bool :=
  Tr.rec (motive := fun _ => Tr α → Bool) (fun s => match s with | .nil => true | _ => false)
    (fun v _ _ il ir s => match s with | .nil => false | .node u l r => ifB (eqOpt eq v u) (ifB (il l) (ir r) false) false) t
noncomputable def eqLs {α : Type} (eq : α → α → Bool) (l : List α) : List α → Bool :=
  listRec (γ := List α → Bool) (fun s => s.isEmpty) (fun x ih s => match s with | [] => false | y :: s => ifB (eq x y) (ih s) false) l
/-- the same, but for what holds values in turn -/
noncomputable def eqA0 (x y : AV) : Bool :=
  match x, y with
  | .bad, .bad => true
  | .undef, .undef => true
  | .bool a, .bool b => a == b
  | .int j a, .int k b => decide (j = k) && decide (a = b)
  | .sym a, .sym b => decide (a = b)
  | .float j a, .float k b => decide (j = k) && Nat.beq a b
  | .str t o n, .str t' o' n' => Nat.beq n n' && Nat.beq o o' && eqTr Nat.beq t t'
  | .ptr a b, .ptr c d => Nat.beq a c && Nat.beq b d
  | .pnil, .pnil => true
  | .sl a b c d, .sl a' b' c' d' => Nat.beq a a' && Nat.beq b b' && Nat.beq c c' && eqOpt Nat.beq d d'
  | .snil, .snil => true
  | .map a, .map b => Nat.beq a b
  | .mnil, .mnil => true
  | .nilFunc, .nilFunc => true
  | .nilIface, .nilIface => true
  | _, _ => false
noncomputable def eqA1 (x y : AV) : Bool :=
  match x, y with
  | .agg a, .agg b => eqLs eqA0 a b
  | .func f a, .func g b => Nat.beq f g && eqLs eqA0 a b
  | x, y => eqA0 x y
noncomputable def eqA (x y : AV) : Bool :=
  match x, y with
  | .tup a, .tup b => eqLs eqA1 a b
  | x, y => eqA1 x y
noncomputable def eqO (x y : AO) : Bool :=
  match x, y with
  | .cells c n e, .cells c' n' e' => Nat.beq n n' && Nat.beq e e' && eqTr eqA c c'
  | .row c n z e, .row c' n' z' e' => Nat.beq n n' && Nat.beq z z' && Nat.beq e e' && eqTr eqA c c'
  | .map es, .map es' => eqLs (fun p q => eqA p.1 q.1 && eqA p.2 q.2) es es'
  | _, _ => false

/-- a call: the arguments, the first free label and what is read of the heap; the result, what of the heap is new or changed, and the first free label behind it -/
structure Ent where
  f : FuncId
  xs : List AV
  n0 : Nat
  pre : List (Nat × AO)
  v : AV
  post : List (Nat × AO)
  n1 : Nat

noncomputable def lies (l : List (Nat × AO)) (h : Hp) : Bool :=
  listRec (γ := Bool) true (fun x ih => match h.get x.1 with | some o => ifB (eqO x.2 o) ih false | none => false) l
noncomputable def hasL (l : List (Nat × AO)) (x : Nat) : Bool := listRec (γ := Bool) false (fun y ih => ifB (Nat.beq y.1 x) true ih) l
/-- what of pre is not in post is as it was -/
noncomputable def kept (post l : List (Nat × AO)) (h : Hp) : Bool :=
  listRec (γ := Bool) true (fun x ih => ifB (hasL post x.1) ih (match h.get x.1 with | some o => ifB (eqO x.2 o) ih false | none => false)) l
/-- all labels are known: older than n, or in post -/
noncomputable def knL (n : Nat) (post : List (Nat × AO)) (l : Nat) : Bool := ifB (Nat.ble (Nat.succ l) n) true (hasL post l)
noncomputable def cl0 (n : Nat) (post : List (Nat × AO)) (x : AV) : Bool :=
  match x with
  | .ptr l _ => knL n post l
  | .sl l _ _ _ => knL n post l
  | .map l => knL n post l
  | .func _ _ => false
  | .agg _ => false
  | .tup _ => false
  | _ => true
noncomputable def clL (n : Nat) (post : List (Nat × AO)) (l : List AV) : Bool := listRec (γ := Bool) true (fun x ih => ifB (cl0 n post x) ih false) l
noncomputable def clA1 (n : Nat) (post : List (Nat × AO)) (x : AV) : Bool :=
  match x with
  | .func _ xs => clL n post xs
  | .agg xs => clL n post xs
  | x => cl0 n post x
noncomputable def clL1 (n : Nat) (post : List (Nat × AO)) (l : List AV) : Bool := listRec (γ := Bool) true (fun x ih => ifB (clA1 n post x) ih false) l
noncomputable def clA (n : Nat) (post : List (Nat × AO)) (x : AV) : Bool :=
  match x with
  | .tup xs => clL1 n post xs
  | x => clA1 n post x
noncomputable def clT (n : Nat) (post : List (Nat × AO)) (t : Tr AV) : Bool :=
  Tr.rec (motive := fun _ => Bool) true (fun v _ _ il ir => match v with | none => ifB il ir false | some v => ifB (clA n post v) (ifB il ir false) false) t
noncomputable def clO (n : Nat) (post : List (Nat × AO)) (o : AO) : Bool :=
  match o with
  | .cells c _ _ => clT n post c
  | .row c _ _ _ => clT n post c
  | .map es => listRec (γ := Bool) true (fun x ih => ifB (clA n post x.1) (ifB (clA n post x.2) ih false) false) es
noncomputable def clP (n : Nat) (post l : List (Nat × AO)) : Bool := listRec (γ := Bool) true (fun x ih => ifB (clO n post x.2) ih false) l

section
variable {β : Type}
noncomputable def putAll (l : List (Nat × AO)) (h : Hp) (k : Hp → R β) : R β := listRec (γ := Hp → R β) k (fun x ih h => Tr.setK (some x.2) h x.1 ih) l h
/-- looked up, or else reckoned -/
noncomputable def knownF (tab : List Ent) (call : CallF β) : CallF β := fun f xs h n k =>
  listRec (γ := R β) (call f xs h n k) (fun e ih => ifB (Nat.beq e.f f) (ifB (Nat.beq e.n0 n) (ifB (eqLs eqA e.xs xs) (gd (lies e.pre h) <| putAll e.post h fun h => k e.v h e.n1) ih) ih) ih) tab
noncomputable def runK (E : Env) (tab : List Ent) (d : Nat) : CallF β := Nat.rec (motive := fun _ => CallF β) (fun _ _ _ _ _ => none) (fun _ ih => knownF tab (stepF E ih)) d
end
/-- the entry's own run -/
noncomputable def entRun (E : Env) (tab : List Ent) (d : Nat) (e : Ent) : R Unit :=
  putAll e.pre .nil fun h => runK E tab d e.f e.xs h e.n0 fun v h n =>
    gd (eqA e.v v) <| gd (Nat.beq e.n1 n) <| gd (lies e.post h) <| gd (kept e.post e.pre h) <| gd (clA e.n0 e.post e.v) <| gd (clP e.n0 e.post e.post) <| some ()
end Go.Proofs.YtgedmmmgkfehjaaGreatDoor
