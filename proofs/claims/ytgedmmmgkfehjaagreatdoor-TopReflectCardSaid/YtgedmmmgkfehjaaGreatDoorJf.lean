/- The closed facts of the row of TopReflect, one by one: what it comes to by plain names is reckoned once, over a table. -/
import Derived.Test.YtgedmmmgkfehjaaGreatDoorRows
import Derived.Test.YtgedmmmgkfehjaaGreatDoorProg
import Derived.Test.YtgedmmmgkfehjaaGreatDoorChecked
import Derived.KernelRfl
import Derived.JoinedCond
namespace Go.Proofs.YtgedmmmgkfehjaaGreatDoor
set_option maxRecDepth 100000

section
variable (tab : List (List FuncId))
/-- as closureVia, over a table, with what was seen as the bits of a number -/
noncomputable def clGo (n : Nat) : List FuncId → List FuncId → Nat → List FuncId :=
  Nat.rec (motive := fun _ => List FuncId → List FuncId → Nat → List FuncId) (fun _ seen _ => seen.reverse)
    (fun _ ih todo seen m => List.rec (motive := fun _ => List FuncId) seen.reverse
      (fun f todo _ => Bool.rec (motive := fun _ => List FuncId)
        (Nat.rec (motive := fun _ => Nat → List FuncId) (fun _ => []) (fun k _ _ => ih ((tab[f]?).getD [] ++ todo) (f :: seen) (Nat.succ k)) (Nat.lor m (Nat.shiftLeft 1 f)) 0)
        (ih todo seen m) (Nat.testBit m f)) todo) n

theorem clGo_zero (todo seen : List FuncId) (m : Nat) : clGo tab 0 todo seen m = seen.reverse := rfl
theorem clGo_nil (n : Nat) (seen : List FuncId) (m : Nat) : clGo tab n [] seen m = seen.reverse := by cases n <;> rfl
theorem clGo_cons (n : Nat) (f : FuncId) (todo seen : List FuncId) (m : Nat) :
    clGo tab (n + 1) (f :: todo) seen m = if m.testBit f then clGo tab n todo seen m else clGo tab n ((tab[f]?).getD [] ++ todo) (f :: seen) (m ||| (1 <<< f)) := by
  cases hb : m.testBit f with
  | true =>
    simp only [if_true]
    show (Bool.rec _ _ (Nat.testBit m f) : List FuncId) = _
    rw [hb]
    rfl
  | false =>
    simp only [Bool.false_eq_true, if_false]
    show (Bool.rec _ _ (Nat.testBit m f) : List FuncId) = _
    rw [hb]
    show (Nat.rec (motive := fun _ => Nat → List FuncId) (fun _ => []) (fun k _ _ => clGo tab n ((tab[f]?).getD [] ++ todo) (f :: seen) (Nat.succ k)) (m ||| (1 <<< f)) 0 : List FuncId) = _
    have hne : m ||| (1 <<< f) ≠ 0 := by
      intro h0
      have := congrArg (fun x => Nat.testBit x f) h0
      simp [Nat.testBit_or, Nat.one_shiftLeft, Nat.testBit_two_pow_self] at this
    cases hq : m ||| (1 <<< f) with
    | zero => exact absurd hq hne
    | succ k => rfl

theorem closureVia_go {P : Program} (htab : P.funcs.toList.map P.leadsTo = tab) : ∀ (n : Nat) (todo seen : List FuncId) (m : Nat), (∀ x, seen.contains x = m.testBit x) → P.closureVia n todo seen = clGo tab n todo seen m
  | 0, todo, seen, m, _ => by rw [clGo_zero]; unfold Program.closureVia; cases todo <;> rfl
  | n + 1, [], seen, m, _ => by rw [clGo_nil]; rfl
  | n + 1, f :: todo, seen, m, h => by
    rw [clGo_cons, ← h f]
    unfold Program.closureVia
    have hl : (P.funcs[f]?).elim [] P.leadsTo = (tab[f]?).getD [] := by
      rw [← htab, List.getElem?_map, Array.getElem?_toList]
      cases P.funcs[f]? <;> rfl
    split
    · exact closureVia_go htab n todo seen m h
    · rw [hl]
      refine closureVia_go htab n _ _ _ fun x => ?_
      rw [Nat.testBit_or, ← h x, Nat.one_shiftLeft, Nat.testBit_two_pow, List.contains_cons]
      by_cases hx : f = x
      · subst hx; simp
      · have h2 : (x == f) = false := by simpa using fun e => hx e.symm
        rw [h2]
        simp [hx]

theorem closure_go {P : Program} (htab : P.funcs.toList.map P.leadsTo = tab) (f : FuncId) : P.closure f = clGo tab (1 + (tab.map fun l => l.length + 1).sum) [f] [] 0 := by
  unfold Program.closure
  rw [closureVia_go tab htab _ _ _ 0 (fun x => by simp)]
  subst htab
  rw [List.map_map]
  rfl
end
end Go.Proofs.YtgedmmmgkfehjaaGreatDoor
