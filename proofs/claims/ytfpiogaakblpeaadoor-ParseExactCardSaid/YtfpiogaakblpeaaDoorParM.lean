/- Reading derivations of tokens, on lists. -/
import Derived.Test.YtfpiogaakblpeaaDoorShowM
import Derived.Test.YtfpiogaakblpeaaDoorLexM
namespace Go.Proofs.YtfpiogaakblpeaaDoor
open Go.RowKit

/-- why reading stops -/
inductive Why where
  | parse | deep | nodes
deriving DecidableEq
/-- what reading leads to: a value, the next token, the nodes begun; or the token at which it stops, and why -/
inductive Res (α : Type) where
  | ok (a : α) (k n : Nat)
  | bad (k : Nat) (y : Why)

def kindAt (l : List Tok) (k : Nat) : Nat := (l[k]?.map Tok.kind).getD 0
def textAt (l : List Tok) (k : Nat) : List UInt8 := (l[k]?.map Tok.text).getD []

structure PEnv where
  l : List Tok
  dOK : Nat → Bool
  nOK : Nat → Bool

def kidsM (f : Nat → Nat → Res DT) : Nat → Nat → Nat → List DT → Res (List DT)
  | 0, k, n, acc => .ok acc k n
  | c + 1, k, n, acc => match f k n with
    | .ok d k' n' => kidsM f c k' n' (acc ++ [d])
    | .bad k' y => .bad k' y

/-- behind the kids: the closing bracket -/
def closeM (l : List Tok) (r i : Int) : Res (List DT) → Res DT
  | .bad k y => .bad k y
  | .ok ks k n => if kindAt l k = 2 then .ok (.node r i ks) (k + 1) n else .bad k .parse

def derivM (E : PEnv) : Nat → Nat → Nat → Nat → Res DT
  | 0, _, k, _ => .bad k .parse
  | fuel + 1, deep, k, n =>
    if kindAt E.l k ≠ 1 then .bad k .parse
    else if E.dOK deep = false then .bad k .deep
    else if E.nOK (n + 1) = false then .bad k .nodes
    else if kindAt E.l (k + 1) ≠ 3 ∨ ruleI (textAt E.l (k + 1)) = 0 then .bad (k + 1) .parse
    else if ruleI (textAt E.l (k + 1)) = 1 ∨ ruleI (textAt E.l (k + 1)) = 2 then
      if kindAt E.l (k + 2) ≠ 4 then .bad (k + 2) .parse
      else closeM E.l (ruleI (textAt E.l (k + 1))) ((getN (textAt E.l (k + 2))).getD 0) (.ok [] (k + 3) (n + 1))
    else closeM E.l (ruleI (textAt E.l (k + 1))) 0 (kidsM (derivM E fuel (deep + 1)) (kidsI (ruleI (textAt E.l (k + 1)))).toNat (k + 2) (n + 1) [])

/-- the context's derivations, up to the closing bracket -/
def ctxM (f : Nat → Nat → Res DT) (l : List Tok) : Nat → Nat → Nat → List DT → Res (List DT)
  | 0, k, _, _ => .bad k .parse
  | fuel + 1, k, n, acc => if kindAt l k = 2 then .ok acc k n else match f k n with
    | .ok d k' n' => ctxM f l fuel k' n' (acc ++ [d])
    | .bad k' y => .bad k' y

def wordFile : List UInt8 := [102, 105, 108, 101]

/-- behind the context -/
def restM (f : Nat → Nat → Res DT) (l : List Tok) : Res (List DT) → Res (List DT × DT)
  | .bad k y => .bad k y
  | .ok cs k n => match f (k + 1) n with
    | .bad k' y => .bad k' y
    | .ok d k' n' => if kindAt l k' = 2 then (if k' + 1 < l.length then .bad (k' + 1) .parse else .ok (cs, d) (k' + 1) n') else .bad k' .parse

def fileM (E : PEnv) : Res (List DT × DT) :=
  if kindAt E.l 0 ≠ 1 then .bad 0 .parse
  else if kindAt E.l 1 ≠ 3 ∨ textAt E.l 1 ≠ wordFile then .bad 1 .parse
  else if kindAt E.l 2 ≠ 1 then .bad 2 .parse
  else restM (derivM E (E.l.length + 1) 1) E.l (ctxM (derivM E (E.l.length + 1) 1) E.l (E.l.length + 1) 3 0 [])

/-- with the lexer's fault -/
def wholeM (dOK nOK : Nat → Bool) (text : List UInt8) : Res (List DT × DT) :=
  match fileM ⟨(lexL text).1, dOK, nOK⟩ with
  | .bad k y => .bad k y
  | .ok x k n => if (lexL text).2 = none then .ok x k n else .bad k .parse

def placeM (text : List UInt8) (k : Nat) : Nat :=
  match (lexL text).1[k]? with
  | some t => t.pos
  | none => (lexL text).2.getD text.length

theorem kindAt_lt {l : List Tok} {k : Nat} (h : kindAt l k ≠ 0) : k < l.length := by
  rcases Nat.lt_or_ge k l.length with h' | h'
  · exact h'
  · simp [kindAt, List.getElem?_eq_none h'] at h
theorem kindAt_eq {l : List Tok} {k : Nat} (h : k < l.length) : kindAt l k = l[k].kind := by simp [kindAt, h]
theorem textAt_eq {l : List Tok} {k : Nat} (h : k < l.length) : textAt l k = l[k].text := by simp [textAt, h]
theorem kindAt_ge {l : List Tok} {k : Nat} (h : l.length ≤ k) : kindAt l k = 0 := by simp [kindAt, List.getElem?_eq_none h]

/-- what is read moves on, and stays within -/
def Moves (l : List Tok) {α : Type} (k n : Nat) : Res α → Prop
  | .ok _ k' n' => k < k' ∧ k' ≤ l.length ∧ n' ≤ n + (k' - k) ∧ n ≤ n'
  | .bad k' _ => k ≤ k' ∧ k' ≤ l.length
def MovesK (l : List Tok) {α : Type} (k n : Nat) : Res α → Prop
  | .ok _ k' n' => k ≤ k' ∧ k' ≤ l.length ∧ n' ≤ n + (k' - k) ∧ n ≤ n'
  | .bad k' _ => k ≤ k' ∧ k' ≤ l.length

theorem kidsM_moves {l : List Tok} {f : Nat → Nat → Res DT} (hf : ∀ k n, k ≤ l.length → Moves l k n (f k n)) : ∀ (c k n : Nat) (acc : List DT), k ≤ l.length → MovesK l k n (kidsM f c k n acc)
  | 0, k, n, acc, h => by simp [kidsM, MovesK, h]
  | c + 1, k, n, acc, h => by
    have h1 := hf k n h
    unfold kidsM
    cases hq : f k n with
    | bad k' y => rw [hq] at h1; exact h1
    | ok d k' n' =>
      rw [hq] at h1
      simp only [Moves] at h1
      have h2 := kidsM_moves hf c k' n' (acc ++ [d]) h1.2.1
      revert h2
      dsimp only
      cases kidsM f c k' n' (acc ++ [d]) with
      | ok a k2 n2 => simp only [MovesK]; omega
      | bad k2 y => simp only [MovesK]; omega

theorem closeM_moves {l : List Tok} {r i : Int} {k n : Nat} {x : Res (List DT)} (h : MovesK l (k + 1) (n + 1) x) (hk : k ≤ l.length) : Moves l k n (closeM l r i x) := by
  cases x with
  | bad k' y => simp only [MovesK] at h; simp only [closeM, Moves]; omega
  | ok ks k' n' =>
    simp only [MovesK] at h
    simp only [closeM]
    by_cases hc : kindAt l k' = 2
    · have := kindAt_lt (l := l) (k := k') (by omega)
      rw [if_pos hc]; simp only [Moves]; omega
    · rw [if_neg hc]; simp only [Moves]; omega

theorem derivM_moves (E : PEnv) : ∀ (fuel deep k n : Nat), k ≤ E.l.length → Moves E.l k n (derivM E fuel deep k n)
  | 0, deep, k, n, h => by simp [derivM, Moves, h]
  | fuel + 1, deep, k, n, h => by
    unfold derivM
    by_cases h1 : kindAt E.l k ≠ 1
    · rw [if_pos h1]; simp [Moves, h]
    rw [if_neg h1]
    have hk := kindAt_lt (l := E.l) (k := k) (by omega)
    by_cases h2 : E.dOK deep = false
    · rw [if_pos h2]; simp [Moves, h]
    rw [if_neg h2]
    by_cases h3 : E.nOK (n + 1) = false
    · rw [if_pos h3]; simp [Moves, h]
    rw [if_neg h3]
    by_cases h4 : kindAt E.l (k + 1) ≠ 3 ∨ ruleI (textAt E.l (k + 1)) = 0
    · rw [if_pos h4]; simp only [Moves]; omega
    rw [if_neg h4]
    have hk1 := kindAt_lt (l := E.l) (k := k + 1) (by omega)
    by_cases h5 : ruleI (textAt E.l (k + 1)) = 1 ∨ ruleI (textAt E.l (k + 1)) = 2
    · rw [if_pos h5]
      by_cases h6 : kindAt E.l (k + 2) ≠ 4
      · rw [if_pos h6]; simp only [Moves]; omega
      rw [if_neg h6]
      have hk2 := kindAt_lt (l := E.l) (k := k + 2) (by omega)
      exact closeM_moves (by simp only [MovesK]; omega) h
    · rw [if_neg h5]
      have := kidsM_moves (l := E.l) (f := derivM E fuel (deep + 1)) (fun k n h => derivM_moves E fuel (deep + 1) k n h) (kidsI (ruleI (textAt E.l (k + 1)))).toNat (k + 2) (n + 1) [] (by omega)
      refine closeM_moves ?_ h
      revert this
      cases kidsM (derivM E fuel (deep + 1)) (kidsI (ruleI (textAt E.l (k + 1)))).toNat (k + 2) (n + 1) [] with
      | ok a k2 n2 => simp only [MovesK]; omega
      | bad k2 y => simp only [MovesK]; omega

theorem kidsM_congr {l : List Tok} {f g : Nat → Nat → Res DT} (hf : ∀ k n, k ≤ l.length → Moves l k n (f k n)) {k0 : Nat} (h : ∀ k n, k0 ≤ k → f k n = g k n) : ∀ (c k n : Nat) (acc : List DT), k0 ≤ k → k ≤ l.length → kidsM f c k n acc = kidsM g c k n acc
  | 0, k, n, acc, _, _ => by simp [kidsM]
  | c + 1, k, n, acc, hk, hl => by
    have h1 := hf k n hl
    unfold kidsM
    rw [← h k n hk]
    cases hq : f k n with
    | bad k' y => rfl
    | ok d k' n' =>
      rw [hq] at h1
      simp only [Moves] at h1
      exact kidsM_congr hf h c k' n' _ (by omega) (by omega)

/-- more fuel turns nothing -/
theorem derivM_fuel (E : PEnv) : ∀ (f g deep k n : Nat), E.l.length < k + f → E.l.length < k + g → derivM E f deep k n = derivM E g deep k n
  | 0, 0, _, _, _, _, _ => rfl
  | 0, g + 1, deep, k, n, h, _ => by
    have := kindAt_ge (l := E.l) (k := k) (by omega)
    unfold derivM
    rw [if_pos (by omega)]
  | f + 1, 0, deep, k, n, _, h => by
    have := kindAt_ge (l := E.l) (k := k) (by omega)
    unfold derivM
    rw [if_pos (by omega)]
  | f + 1, g + 1, deep, k, n, hf, hg => by
    unfold derivM
    by_cases h1 : kindAt E.l k ≠ 1
    · rw [if_pos h1, if_pos h1]
    rw [if_neg h1, if_neg h1]
    by_cases h4 : kindAt E.l (k + 1) ≠ 3 ∨ ruleI (textAt E.l (k + 1)) = 0
    · rw [if_pos h4, if_pos h4]
    rw [if_neg h4, if_neg h4]
    have hk1 := kindAt_lt (l := E.l) (k := k + 1) (by omega)
    rw [kidsM_congr (l := E.l) (f := derivM E f (deep + 1)) (g := derivM E g (deep + 1)) (k0 := k + 1) (fun k n h => derivM_moves E f (deep + 1) k n h) (fun k' n' hk' => derivM_fuel E f g (deep + 1) k' n' (by omega) (by omega)) _ _ _ _ (by omega) (by omega)]
end Go.Proofs.YtfpiogaakblpeaaDoor
