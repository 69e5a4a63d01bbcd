/- Reading terms of tokens, on lists. A text that is cut at the lexer's first fault has the same tokens and no fault. Walks of read.names, Name; of the reference's; of write.name, plain, word. Walks of read.form, read.plain, read.Symbol, transhipref09.Symbol. -/
import Derived.Test.YtfklmcmoackepaaDoorTnu
import Derived.Test.YtfklmcmoackepaaDoorLexM
import Derived.Test.YtfklmcmoackepaaDoorLexP
import Derived.Test.YtfklmcmoackepaaDoorRtf
import Derived.Test.YtfklmcmoackepaaDoorKit
namespace Go.Proofs.YtfklmcmoackepaaDoor
open Go.RowKit

/-- what reading leads to: a value and the next token; or the token at fault -/
inductive RR (α : Type) where
  | ok (a : α) (k : Nat)
  | bad (k : Nat)
def RR.bind {α β : Type} (r : RR α) (f : α → Nat → RR β) : RR β :=
  match r with
  | .ok a k => f a k
  | .bad k => .bad k
theorem RR.bind_ok {α β : Type} (a : α) (k : Nat) (f : α → Nat → RR β) : (RR.ok a k).bind f = f a k := rfl
theorem RR.bind_bad {α β : Type} (k : Nat) (f : α → Nat → RR β) : (RR.bad k : RR α).bind f = .bad k := rfl
theorem RR.bind_assoc {α β γ : Type} (r : RR α) (f : α → Nat → RR β) (g : β → Nat → RR γ) : (r.bind f).bind g = r.bind fun a k => (f a k).bind g := by cases r <;> rfl
theorem RR.bind_ite {α β : Type} (c : Prop) [Decidable c] (x y : RR α) (f : α → Nat → RR β) : (if c then x else y).bind f = if c then x.bind f else y.bind f := by split <;> rfl
theorem RR.bind_congr {α β : Type} (r : RR α) {f g : α → Nat → RR β} (h : ∀ a k, r = .ok a k → f a k = g a k) : r.bind f = r.bind g := by
  cases r with
  | ok a k => exact h a k rfl
  | bad k => rfl

def kindAt (l : List Tok) (k : Nat) : Nat := (l[k]?.map Tok.kind).getD 0
def textAt (l : List Tok) (k : Nat) : List UInt8 := (l[k]?.map Tok.text).getD []
theorem kindAt_lt {l : List Tok} {k : Nat} (h : kindAt l k ≠ 0) : k < l.length := by
  rcases Nat.lt_or_ge k l.length with h' | h'
  · exact h'
  · simp [kindAt, List.getElem?_eq_none h'] at h
theorem kindAt_eq {l : List Tok} {k : Nat} (h : k < l.length) : kindAt l k = l[k].kind := by simp [kindAt, h]
theorem textAt_eq {l : List Tok} {k : Nat} (h : k < l.length) : textAt l k = l[k].text := by simp [textAt, h]
theorem kindAt_ge {l : List Tok} {k : Nat} (h : l.length ≤ k) : kindAt l k = 0 := by simp [kindAt, List.getElem?_eq_none h]
theorem textAt_ge {l : List Tok} {k : Nat} (h : l.length ≤ k) : textAt l k = [] := by simp [textAt, List.getElem?_eq_none h]

/-- the tokens, and the levels that i and j stand for -/
structure REnv where
  l : List Tok
  i : Nat
  j : Nat

/-- a level that begins at a token -/
def capM (q n k : Nat) : RR Nat := if 1000 < n then .bad q else .ok n k
/-- behind what stands within a level's brackets -/
def shutM (E : REnv) (q n k : Nat) : RR Nat := if kindAt E.l k = 2 then capM q n (k + 1) else .bad k
def wI : List UInt8 := [105]
def wJ : List UInt8 := [106]
def wSuc : List UInt8 := [115, 117, 99]
def wMax : List UInt8 := [109, 97, 120]
def levelM (E : REnv) : Nat → Nat → RR Nat
  | 0, k => .bad k
  | f + 1, k =>
    if kindAt E.l k = 4 then capM k ((getN (textAt E.l k)).getD 0) (k + 1)
    else if kindAt E.l k = 3 ∧ textAt E.l k = wI then capM k E.i (k + 1)
    else if kindAt E.l k = 3 ∧ textAt E.l k = wJ then capM k E.j (k + 1)
    else if kindAt E.l k = 1 then
      if kindAt E.l (k + 1) = 3 ∧ textAt E.l (k + 1) = wSuc then (levelM E f (k + 2)).bind fun n k' => shutM E k (n + 1) k'
      else if kindAt E.l (k + 1) = 3 ∧ textAt E.l (k + 1) = wMax then (levelM E f (k + 2)).bind fun n k' => (levelM E f k').bind fun m k'' => shutM E k (max n m) k''
      else .bad (k + 1)
    else .bad k
def levM (E : REnv) (k : Nat) : RR Nat := levelM E (E.l.length + 1) k

/-- a word -/
def wordM (E : REnv) (k : Nat) : RR (List UInt8) := if kindAt E.l k = 3 then .ok (textAt E.l k) (k + 1) else .bad k
/-- a symbol's number; 0: it is none -/
def symI (s : List UInt8) : Nat := if symWords.idxOf s < 21 then symWords.idxOf s + 1 else 0
def symM (E : REnv) (k : Nat) : RR Nat := (wordM E k).bind fun s k' => if symI s = 0 then .bad k else .ok (symI s) k'
/-- a list's kind; 0: it is none -/
def kindW (s : List UInt8) : Nat := if s = [] then 0 else if markWords.idxOf s < 23 then markWords.idxOf s + 1 else 0
/-- the innermost name -/
def lookM (nm : List (List UInt8)) (s : List UInt8) : Option Nat := if s ∈ nm then some (nm.reverse.idxOf s) else none

/-- the numbers behind a list's word: N, I, J -/
def headM (E : REnv) (kd : Nat) (k : Nat) : RR (Nat × Nat × Nat) :=
  if kd = 23 then (symM E k).bind fun n k1 => (levM E k1).bind fun i k2 => (levM E k2).bind fun j k3 => .ok (n, i, j) k3
  else if levelsK kd = 2 then (levM E k).bind fun i k1 => (levM E k1).bind fun j k2 => .ok (0, i, j) k2
  else if levelsK kd = 1 then (levM E k).bind fun i k1 => .ok (0, i, 0) k1
  else .ok (0, 0, 0) k

/-- the names that are bound beneath a list's kids, from kid x on -/
def bindM (E : REnv) (kd x : Nat) (nm : List (List UInt8)) (k : Nat) : RR (List (List UInt8)) :=
  if kd = 22 ∧ x = 2 then (wordM E k).bind fun a k1 => (wordM E k1).bind fun b k2 => .ok [a, b] k2 else .ok nm k

/-- kids x and so on: so many -/
def kidsM (E : REnv) (F : List (List UInt8) → Nat → Nat → RR TT) (outer : List (List UInt8)) (kd : Nat) : Nat → Nat → List (List UInt8) → List TT → Nat → RR (List TT)
  | 0, _, _, acc, k => .ok acc k
  | c + 1, x, nm, acc, k => (bindM E kd x nm k).bind fun nm1 k1 => (F (if 0 < bindsK kd x then outer ++ nm1 else outer) (ofK kd x).toNat k1).bind fun t k2 => kidsM E F outer kd c (x + 1) nm1 (acc ++ [t]) k2

def closeM (E : REnv) (kd n i j : Nat) (ks : List TT) (k : Nat) : RR TT := if kindAt E.l k = 2 then .ok (.node kd i j n ks) (k + 1) else .bad k

/-- what stands behind a list's word -/
def bodyM (E : REnv) (F : List (List UInt8) → Nat → Nat → RR TT) (outer : List (List UInt8)) (kd : Nat) (k : Nat) : RR TT :=
  (headM E kd k).bind fun h k1 => (if bindsK kd 1 = 1 then (wordM E k1).bind fun s k2 => .ok [s] k2 else .ok [] k1).bind fun nm k2 =>
    (kidsM E F outer kd (kidsK kd h.1).toNat 0 nm [] k2).bind fun ks k3 => closeM E kd h.1 h.2.1 h.2.2 ks k3

/-- is a list of another sort than is wanted? -/
def wrongM (want kd : Nat) : Bool := kd == 0 || (want == 1 && decide (12 < kd)) || (want == 2 && decide (2 < kd) && decide (kd ≤ 12))
def termM (E : REnv) : Nat → List (List UInt8) → Nat → Nat → RR TT
  | 0, _, _, k => .bad k
  | f + 1, nm, want, k =>
    if kindAt E.l k = 3 then match lookM nm (textAt E.l k) with
      | some x => .ok (.node 2 x 0 0 []) (k + 1)
      | none => .bad k
    else if kindAt E.l k ≠ 1 then .bad k
    else if kindAt E.l (k + 1) ≠ 3 then .bad (k + 1)
    else if wrongM want (kindW (textAt E.l (k + 1))) = true then .bad (k + 1)
    else bodyM E (termM E f) nm (kindW (textAt E.l (k + 1))) (k + 2)

/-- a whole text -/
def readM (text : List UInt8) (nm : List (List UInt8)) (i j : Nat) : RR TT :=
  (termM ⟨(lexL text).1, i, j⟩ ((lexL text).1.length + 1) nm 0 0).bind fun t k => if k < (lexL text).1.length ∨ (lexL text).2 ≠ none then .bad k else .ok t k
def placeM (text : List UInt8) (k : Nat) : Nat :=
  match (lexL text).1[k]? with
  | some t => t.pos
  | none => (lexL text).2.getD text.length

/-- what is read moves on (by d at least), and stays within -/
def Moves (l : List Tok) {α : Type} (d k : Nat) : RR α → Prop
  | .ok _ k' => k + d ≤ k' ∧ k' ≤ l.length
  | .bad k' => k ≤ k' ∧ k' ≤ l.length
theorem Moves.bind {l : List Tok} {α β : Type} {d e k : Nat} {r : RR α} {f : α → Nat → RR β} (h : Moves l d k r) (hf : ∀ a k', r = .ok a k' → k + d ≤ k' → k' ≤ l.length → Moves l e k' (f a k')) : Moves l (d + e) k (r.bind f) := by
  cases r with
  | bad k' => exact h
  | ok a k' =>
    have h2 := hf a k' rfl h.1 h.2
    simp only [RR.bind]
    revert h2
    have h3 := h.1
    cases f a k' with
    | ok b k2 => simp only [Moves]; omega
    | bad k2 => simp only [Moves]; omega
theorem Moves.less {l : List Tok} {α : Type} {d e k q : Nat} {r : RR α} (h : Moves l d k r) (he : q + e ≤ k + d) (hq : q ≤ k) : Moves l e q r := by
  revert h
  cases r with
  | ok a k' => simp only [Moves]; omega
  | bad k' => simp only [Moves]; omega

theorem capM_moves {l : List Tok} {q n k : Nat} (hq : q ≤ k) (hk : k ≤ l.length) : Moves l (k - q) q (capM q n k) := by
  unfold capM
  split <;> simp only [Moves] <;> omega
theorem shutM_moves {E : REnv} {q n k : Nat} (hq : q ≤ k) (hk : k ≤ E.l.length) : Moves E.l (k + 1 - q) q (shutM E q n k) := by
  unfold shutM
  by_cases h : kindAt E.l k = 2
  · rw [if_pos h]
    have := kindAt_lt (l := E.l) (k := k) (by omega)
    exact capM_moves (by omega) (by omega)
  · rw [if_neg h]; simp only [Moves]; omega

theorem levelM_moves (E : REnv) : ∀ (f k : Nat), k ≤ E.l.length → Moves E.l 1 k (levelM E f k)
  | 0, k, h => by simp [levelM, Moves, h]
  | f + 1, k, h => by
    unfold levelM
    by_cases h1 : kindAt E.l k = 4
    · rw [if_pos h1]
      have := kindAt_lt (l := E.l) (k := k) (by omega)
      exact (capM_moves (l := E.l) (q := k) (k := k + 1) (by omega) (by omega)).less (by omega) (Nat.le_refl _)
    rw [if_neg h1]
    by_cases h2 : kindAt E.l k = 3 ∧ textAt E.l k = wI
    · rw [if_pos h2]
      have := kindAt_lt (l := E.l) (k := k) (by omega)
      exact (capM_moves (l := E.l) (q := k) (k := k + 1) (by omega) (by omega)).less (by omega) (Nat.le_refl _)
    rw [if_neg h2]
    by_cases h3 : kindAt E.l k = 3 ∧ textAt E.l k = wJ
    · rw [if_pos h3]
      have := kindAt_lt (l := E.l) (k := k) (by omega)
      exact (capM_moves (l := E.l) (q := k) (k := k + 1) (by omega) (by omega)).less (by omega) (Nat.le_refl _)
    rw [if_neg h3]
    by_cases h4 : kindAt E.l k = 1
    · rw [if_pos h4]
      have hk := kindAt_lt (l := E.l) (k := k) (by omega)
      have fin : ∀ {r : RR Nat}, (∀ n k', r = .ok n k' → k + 2 ≤ k' ∧ k' ≤ E.l.length) → (∀ k', r = .bad k' → k ≤ k' ∧ k' ≤ E.l.length) → ∀ g : Nat → Nat, Moves E.l 1 k (r.bind fun n k' => shutM E k (g n) k') := by
        intro r h1 h2 g
        cases r with
        | bad k' => exact h2 k' rfl
        | ok n k' =>
          obtain ⟨a, b⟩ := h1 n k' rfl
          exact (shutM_moves (n := g n) (show k ≤ k' by omega) b).less (by omega) (Nat.le_refl _)
      by_cases h5 : kindAt E.l (k + 1) = 3 ∧ textAt E.l (k + 1) = wSuc
      · rw [if_pos h5]
        have hk1 := kindAt_lt (l := E.l) (k := k + 1) (by omega)
        have h6 := levelM_moves E f (k + 2) (by omega)
        refine fin (fun n k' hq => ?_) (fun k' hq => ?_) (fun n => n + 1)
        · rw [hq] at h6; simp only [Moves] at h6; omega
        · rw [hq] at h6; simp only [Moves] at h6; omega
      rw [if_neg h5]
      by_cases h6 : kindAt E.l (k + 1) = 3 ∧ textAt E.l (k + 1) = wMax
      · rw [if_pos h6]
        have hk1 := kindAt_lt (l := E.l) (k := k + 1) (by omega)
        have h7 := levelM_moves E f (k + 2) (by omega)
        cases hq : levelM E f (k + 2) with
        | bad k' => rw [hq] at h7; simp only [Moves] at h7; simp only [RR.bind, Moves]; omega
        | ok n k' =>
          rw [hq] at h7
          simp only [Moves] at h7
          have h8 := levelM_moves E f k' h7.2
          simp only [RR.bind_ok]
          refine fin (fun m k'' hq2 => ?_) (fun k'' hq2 => ?_) (fun m => max n m)
          · rw [hq2] at h8; simp only [Moves] at h8; omega
          · rw [hq2] at h8; simp only [Moves] at h8; omega
      rw [if_neg h6]
      simp only [Moves]; omega
    rw [if_neg h4]
    simp [Moves, h]

theorem levM_moves (E : REnv) {k : Nat} (h : k ≤ E.l.length) : Moves E.l 1 k (levM E k) := levelM_moves E _ k h
theorem wordM_moves (E : REnv) {k : Nat} (h : k ≤ E.l.length) : Moves E.l 1 k (wordM E k) := by
  unfold wordM
  by_cases h1 : kindAt E.l k = 3
  · rw [if_pos h1]
    have := kindAt_lt (l := E.l) (k := k) (by omega)
    simp only [Moves]; omega
  · rw [if_neg h1]; simp only [Moves]; omega
theorem symM_moves (E : REnv) {k : Nat} (h : k ≤ E.l.length) : Moves E.l 1 k (symM E k) := by
  have h1 := wordM_moves E h
  unfold symM
  cases hq : wordM E k with
  | bad k' => rw [hq] at h1; exact h1
  | ok s k' =>
    rw [hq] at h1
    simp only [Moves] at h1
    simp only [RR.bind]
    split <;> simp only [Moves] <;> omega
theorem Moves.ok {l : List Tok} {α : Type} (a : α) {k : Nat} (h : k ≤ l.length) : Moves l 0 k (.ok a k : RR α) := ⟨Nat.le_refl _, h⟩
theorem Moves.bind0 {l : List Tok} {α β : Type} {d k : Nat} {r : RR α} {f : α → Nat → RR β} (h : Moves l d k r) (hf : ∀ a k', r = .ok a k' → k' ≤ l.length → Moves l 0 k' (f a k')) : Moves l 0 k (r.bind f) :=
  (h.bind fun a k' e _ h2 => hf a k' e h2).less (by omega) (Nat.le_refl _)
theorem headM_moves (E : REnv) (kd : Nat) {k : Nat} (h : k ≤ E.l.length) : Moves E.l 0 k (headM E kd k) := by
  unfold headM
  split
  · exact (symM_moves E h).bind0 fun n k1 _ h1 => (levM_moves E h1).bind0 fun i k2 _ h2 => (levM_moves E h2).bind0 fun j k3 _ h3 => .ok _ h3
  · split
    · exact (levM_moves E h).bind0 fun i k2 _ h2 => (levM_moves E h2).bind0 fun j k3 _ h3 => .ok _ h3
    · split
      · exact (levM_moves E h).bind0 fun i k2 _ h2 => .ok _ h2
      · exact .ok _ h
theorem bindM_moves (E : REnv) (kd x : Nat) (nm : List (List UInt8)) {k : Nat} (h : k ≤ E.l.length) : Moves E.l 0 k (bindM E kd x nm k) := by
  unfold bindM
  split
  · exact (wordM_moves E h).bind0 fun a k1 _ h1 => (wordM_moves E h1).bind0 fun b k2 _ h2 => .ok _ h2
  · exact .ok _ h
theorem kidsM_moves (E : REnv) (F : List (List UInt8) → Nat → Nat → RR TT) (hF : ∀ nm want k, k ≤ E.l.length → Moves E.l 1 k (F nm want k)) (outer : List (List UInt8)) (kd : Nat) : ∀ (c x : Nat) (nm : List (List UInt8)) (acc : List TT) (k : Nat), k ≤ E.l.length → Moves E.l 0 k (kidsM E F outer kd c x nm acc k)
  | 0, x, nm, acc, k, h => .ok _ h
  | c + 1, x, nm, acc, k, h => by
    unfold kidsM
    exact (bindM_moves E kd x nm h).bind0 fun nm1 k1 _ h1 => (hF _ _ _ h1).bind0 fun t k2 _ h2 => kidsM_moves E F hF outer kd c (x + 1) nm1 _ k2 h2
theorem closeM_moves (E : REnv) (kd n i j : Nat) (ks : List TT) {k : Nat} (h : k ≤ E.l.length) : Moves E.l 1 k (closeM E kd n i j ks k) := by
  unfold closeM
  by_cases h1 : kindAt E.l k = 2
  · rw [if_pos h1]
    have := kindAt_lt (l := E.l) (k := k) (by omega)
    simp only [Moves]; omega
  · rw [if_neg h1]; simp only [Moves]; omega
theorem bodyM_moves (E : REnv) (F : List (List UInt8) → Nat → Nat → RR TT) (hF : ∀ nm want k, k ≤ E.l.length → Moves E.l 1 k (F nm want k)) (outer : List (List UInt8)) (kd : Nat) {k : Nat} (h : k ≤ E.l.length) : Moves E.l 0 k (bodyM E F outer kd k) := by
  unfold bodyM
  refine (headM_moves E kd h).bind0 fun n k1 _ h1 => ?_
  have hb : Moves E.l 0 k1 (if bindsK kd 1 = 1 then (wordM E k1).bind fun s k2 => .ok [s] k2 else (.ok [] k1 : RR (List (List UInt8)))) := by
    split
    · exact (wordM_moves E h1).bind0 fun s k2 _ h2 => .ok _ h2
    · exact .ok _ h1
  exact hb.bind0 fun nm k2 _ h2 => (kidsM_moves E F hF outer kd _ _ _ _ _ h2).bind0 fun ks k3 _ h3 => (closeM_moves E _ _ _ _ _ h3).less (by omega) (Nat.le_refl _)
theorem termM_moves (E : REnv) : ∀ (f : Nat) (nm : List (List UInt8)) (want k : Nat), k ≤ E.l.length → Moves E.l 1 k (termM E f nm want k)
  | 0, _, _, k, h => by simp [termM, Moves, h]
  | f + 1, nm, want, k, h => by
    unfold termM
    by_cases h1 : kindAt E.l k = 3
    · rw [if_pos h1]
      have := kindAt_lt (l := E.l) (k := k) (by omega)
      split <;> simp only [Moves] <;> omega
    rw [if_neg h1]
    by_cases h2 : kindAt E.l k ≠ 1
    · rw [if_pos h2]; simp only [Moves]; omega
    rw [if_neg h2]
    have hk := kindAt_lt (l := E.l) (k := k) (by omega)
    by_cases h3 : kindAt E.l (k + 1) ≠ 3
    · rw [if_pos h3]; simp only [Moves]; omega
    rw [if_neg h3]
    have hk1 := kindAt_lt (l := E.l) (k := k + 1) (by omega)
    by_cases h4 : wrongM want (kindW (textAt E.l (k + 1))) = true
    · rw [if_pos h4]; simp only [Moves]; omega
    rw [if_neg h4]
    exact (bodyM_moves E _ (fun nm want k h => termM_moves E f nm want k h) nm _ (by omega)).less (by omega) (by omega)
end Go.Proofs.YtfklmcmoackepaaDoor

namespace Go.Proofs.YtfklmcmoackepaaDoor
open Go.RowKit

theorem textAt_le (s : ByteArray) (toks : List Tok) (hl : lexL s.data.toList = (toks, none)) (j : Nat) : (textAt toks j).length ≤ s.size := by
  rcases Nat.lt_or_ge j toks.length with h | h
  · rw [textAt_eq h]
    have := spans_pos s.data.toList 0 toks (spans_lexL _ _ hl) j h
    have e : s.data.toList.length = s.size := by simp
    omega
  · simp [textAt, List.getElem?_eq_none h]

theorem skip_cut : ∀ (b : Bool) (l : List UInt8) (m : Nat), l.length - (skip b l).length ≤ m → skip b (l.take m) = (skip b l).take (m - (l.length - (skip b l).length))
  | b, [], m, _ => by cases b <;> simp [skip]
  | false, c :: r, m, h => by
    have h1 := skip_le false r
    have h2 := skip_le true r
    cases m with
    | zero => simp [skip]
    | succ m =>
      rw [List.take_succ_cons]
      simp only [skip] at h ⊢
      by_cases hb : c.toNat = 32 ∨ c.toNat = 9 ∨ c.toNat = 10
      · rw [if_pos hb] at h
        rw [if_pos hb, if_pos hb]
        simp only [List.length_cons] at h ⊢
        rw [skip_cut false r m (by omega)]
        congr 1; omega
      · rw [if_neg hb] at h
        rw [if_neg hb, if_neg hb]
        by_cases h59 : c.toNat = 59
        · rw [if_pos h59] at h
          rw [if_pos h59, if_pos h59]
          simp only [List.length_cons] at h ⊢
          rw [skip_cut true r m (by omega)]
          congr 1; omega
        · rw [if_neg h59, if_neg h59]
          simp
  | true, c :: r, m, h => by
    have h1 := skip_le false r
    have h2 := skip_le true r
    cases m with
    | zero => simp [skip]
    | succ m =>
      rw [List.take_succ_cons]
      simp only [skip] at h ⊢
      by_cases h10 : c.toNat = 10
      · rw [if_pos h10] at h
        rw [if_pos h10, if_pos h10]
        simp only [List.length_cons] at h ⊢
        rw [skip_cut false r m (by omega)]
        congr 1; omega
      · rw [if_neg h10] at h
        rw [if_neg h10, if_neg h10]
        simp only [List.length_cons] at h ⊢
        rw [skip_cut true r m (by omega)]
        congr 1; omega

theorem while_cut (p : UInt8 → Bool) : ∀ (r : List UInt8) (k : Nat), (r.takeWhile p).length ≤ k → (r.take k).takeWhile p = r.takeWhile p ∧ ∃ j, (r.take k).dropWhile p = (r.dropWhile p).take j
  | [], k, _ => ⟨by simp, 0, by simp⟩
  | c :: r, k, h => by
    by_cases hc : p c = true
    · rw [List.takeWhile_cons_of_pos hc] at h
      cases k with
      | zero => simp at h
      | succ k =>
        obtain ⟨h1, j, h2⟩ := while_cut p r k (by simpa using h)
        refine ⟨?_, j, ?_⟩
        · rw [List.take_succ_cons, List.takeWhile_cons_of_pos hc, List.takeWhile_cons_of_pos hc, h1]
        · rw [List.take_succ_cons, List.dropWhile_cons_of_pos hc, List.dropWhile_cons_of_pos hc, h2]
    · cases k with
      | zero => exact ⟨by rw [List.takeWhile_cons_of_neg hc]; rfl, 0, by simp⟩
      | succ k =>
        refine ⟨?_, k + 1, ?_⟩
        · rw [List.take_succ_cons, List.takeWhile_cons_of_neg hc, List.takeWhile_cons_of_neg hc]
        · rw [List.take_succ_cons, List.dropWhile_cons_of_neg hc, List.dropWhile_cons_of_neg hc, List.take_succ_cons]

theorem oneL_cut : ∀ (r : List UInt8) (m : Nat), (oneL r).2.2 = true → (oneL r).2.1.length ≤ m → oneL (r.take m) = oneL r
  | [], m, _, _ => by simp
  | c :: r, m, h, hm => by
    have hp := oneL_len _ h
    cases m with
    | zero => omega
    | succ m =>
      rw [List.take_succ_cons]
      simp only [oneL] at h hm ⊢
      by_cases h1 : c.toNat = 40
      · simp [h1]
      by_cases h2 : c.toNat = 41
      · simp [h2]
      by_cases h3 : isLetter c.toNat = true
      · simp only [h1, h2, h3, if_true, if_false] at h hm ⊢
        rw [(while_cut isAlnum r m (by simpa using hm)).1]
      by_cases h4 : isDigit c.toNat = true
      · simp only [h1, h2, h3, h4, if_true, if_false, Bool.false_eq_true] at h hm ⊢
        obtain ⟨e1, j, e2⟩ := while_cut isDig r m (by simpa using hm)
        rw [e1, e2]
        simp only [Bool.and_eq_true] at h
        have h5 : (!(((r.dropWhile isDig).take j).head?.any fun d => isLetter d.toNat)) = true := by
          cases j with
          | zero => simp
          | succ j => 
            have h6 := h.2
            cases hq : r.dropWhile isDig with
            | nil => simp
            | cons x y => rw [hq] at h6; simpa using h6
        rw [h.1, h.2, h5]
      · simp [h1, h2, h3, h4] at h

theorem lexR_cut : ∀ (f : Nat) (r : List UInt8) (pos : Nat) (toks : List Tok) (p : Nat), lexR f r pos = (toks, some p) → pos ≤ p ∧ lexR f (r.take (p - pos)) pos = (toks, none)
  | 0, r, pos, toks, p, h => by simp [lexR] at h
  | f + 1, r, pos, toks, p, h => by
    have hf := lexR_fault (f + 1) r pos p (by rw [h])
    unfold lexR at h
    by_cases hr : r = []
    · rw [if_pos hr] at h; cases h
    · rw [if_neg hr] at h
      by_cases ho : (oneL r).2.2 = true
      · rw [if_pos ho] at h
        dsimp only at h
        obtain ⟨h1, h2⟩ := Prod.mk.inj h
        have hx : lexR f (skip false (r.drop (oneL r).2.1.length)) (pos + (oneL r).2.1.length + ((r.drop (oneL r).2.1.length).length - (skip false (r.drop (oneL r).2.1.length)).length)) =
          ((lexR f (skip false (r.drop (oneL r).2.1.length)) (pos + (oneL r).2.1.length + ((r.drop (oneL r).2.1.length).length - (skip false (r.drop (oneL r).2.1.length)).length))).1, some p) := Prod.ext rfl h2
        obtain ⟨h3, h4⟩ := lexR_cut f _ _ _ p hx
        have h5 := lexR_fault f _ _ p h2
        have hn := oneL_len r ho
        have hle := oneL_le r hr
        have hs := skip_le false (r.drop (oneL r).2.1.length)
        have hd : (r.drop (oneL r).2.1.length).length = r.length - (oneL r).2.1.length := List.length_drop
        refine ⟨by omega, ?_⟩
        have e1 := oneL_cut r (p - pos) ho (by omega)
        have hne : r.take (p - pos) ≠ [] := fun h => by have := congrArg List.length h; rw [List.length_take] at this; simp only [List.length_nil] at this; omega
        unfold lexR
        rw [if_neg hne, e1, if_pos ho]
        dsimp only
        have e2 : (r.take (p - pos)).drop (oneL r).2.1.length = (r.drop (oneL r).2.1.length).take (p - pos - (oneL r).2.1.length) := by rw [List.drop_take]
        rw [e2]
        have e3 := skip_cut false (r.drop (oneL r).2.1.length) (p - pos - (oneL r).2.1.length) (by omega)
        rw [e3]
        have e4 : p - pos - (oneL r).2.1.length - ((r.drop (oneL r).2.1.length).length - (skip false (r.drop (oneL r).2.1.length)).length) = p - (pos + (oneL r).2.1.length + ((r.drop (oneL r).2.1.length).length - (skip false (r.drop (oneL r).2.1.length)).length)) := by omega
        rw [e4]
        have e5 : pos + (oneL r).2.1.length + (((r.drop (oneL r).2.1.length).take (p - pos - (oneL r).2.1.length)).length - ((skip false (r.drop (oneL r).2.1.length)).take (p - (pos + (oneL r).2.1.length + ((r.drop (oneL r).2.1.length).length - (skip false (r.drop (oneL r).2.1.length)).length)))).length) =
          pos + (oneL r).2.1.length + ((r.drop (oneL r).2.1.length).length - (skip false (r.drop (oneL r).2.1.length)).length) := by
          rw [List.length_take, List.length_take]; omega
        rw [e5, h4]
        exact Prod.ext h1 rfl
      · rw [if_neg ho] at h
        obtain ⟨h1, h2⟩ := Prod.mk.inj h
        obtain rfl := Option.some.inj h2
        refine ⟨Nat.le_refl _, ?_⟩
        rw [Nat.sub_self, List.take_zero, lexR_nil, h1]

theorem lexL_cut {l : List UInt8} {toks : List Tok} {p : Nat} (h : lexL l = (toks, some p)) : lexL (l.take p) = (toks, none) := by
  have hp := lexL_fault h
  have h0 : lexR (l.length + 1) (skip false l) (0 + (l.length - (skip false l).length)) = (toks, some p) := h
  obtain ⟨h1, h2⟩ := lexR_cut _ _ _ _ _ h0
  have hs := skip_le false l
  have h3 := skip_cut false l p (by omega)
  have h4 : lexL (l.take p) = lexR ((l.take p).length + 1) (skip false (l.take p)) (0 + ((l.take p).length - (skip false (l.take p)).length)) := rfl
  have e1 : p - (l.length - (skip false l).length) = p - (0 + (l.length - (skip false l).length)) := by omega
  have hf := lexR_fault _ _ _ p (by rw [h0])
  rw [h4, h3, e1]
  have e2 : 0 + ((l.take p).length - ((skip false l).take (p - (0 + (l.length - (skip false l).length)))).length) = 0 + (l.length - (skip false l).length) := by
    rw [List.length_take, List.length_take]; omega
  rw [e2, lexR_fuel _ (l.length + 1) _ _ (by rw [List.length_take, List.length_take]; omega) (by rw [List.length_take]; omega)]
  exact h2

theorem extract_list (s : ByteArray) (p : Nat) : (s.extract 0 p).data.toList = s.data.toList.take p := by simp
theorem textAt_le' (s : ByteArray) (toks : List Tok) (p : Nat) (hl : lexL s.data.toList = (toks, some p)) (j : Nat) : (textAt toks j).length ≤ s.size := by
  have h1 := textAt_le (s.extract 0 p) toks (by rw [extract_list]; exact lexL_cut hl) j
  have h2 : (s.extract 0 p).size ≤ s.size := by simp [ByteArray.size_extract]; omega
  omega
end Go.Proofs.YtfklmcmoackepaaDoor

namespace Go.Proofs.YtfklmcmoackepaaDoor
open Go.RowKit

theorem itoa_le {i : Int} (h : In64 i) : (Lib.itoa i).length ≤ 20 := by
  obtain ⟨h1, h2⟩ := h
  have key : ∀ u : Nat, u < 10 ^ 19 → (Lib.decDigits u).length ≤ 19 := fun u hu => by
    rw [Lib.decDigits_length]; exact nDigits_le 18 u hu
  by_cases hn : 0 ≤ i
  · obtain ⟨u, rfl⟩ := Int.eq_ofNat_of_zero_le hn
    rw [Lib.itoa_nonneg]
    have := key u (by omega)
    omega
  · obtain ⟨u, rfl⟩ : ∃ u : Nat, i = -(u : Int) := ⟨i.natAbs, by omega⟩
    rw [Lib.itoa_neg u (by omega)]
    have := key u (by omega)
    simp only [List.length_cons]
    omega
theorem symK_le (n : Int) : (symK n).length ≤ 6 := by
  unfold symK
  by_cases h : n < 1 ∨ 21 < n
  · rw [if_pos h]; simp
  · rw [if_neg h]
    match (n - 1).toNat with
    | 0 | 1 | 2 | 3 | 4 | 5 | 6 | 7 | 8 | 9 | 10 | 11 | 12 | 13 | 14 | 15 | 16 | 17 | 18 | 19 | 20 => decide
    | m + 21 => simp [symWords]

def symBlock : Array Value := #[.string ⟨#[117, 105, 112]⟩, .string ⟨#[102, 117, 110, 101, 120, 116]⟩, .string ⟨#[115, 121, 109]⟩, .string ⟨#[116, 114, 97, 110, 115]⟩, .string ⟨#[116, 114]⟩, .string ⟨#[104, 101, 116]⟩, .string ⟨#[116, 121, 112]⟩, .string ⟨#[116, 114, 104]⟩, .string ⟨#[104, 112]⟩, .string ⟨#[104, 50, 101]⟩, .string ⟨#[101, 50, 104]⟩, .string ⟨#[114, 112]⟩, .string ⟨#[99, 112, 105]⟩, .string ⟨#[99, 115, 105, 103]⟩, .string ⟨#[99, 108, 97, 109]⟩, .string ⟨#[99, 97, 112, 112]⟩, .string ⟨#[99, 112, 97, 105, 114]⟩, .string ⟨#[99, 102, 115, 116]⟩, .string ⟨#[99, 115, 110, 100]⟩, .string ⟨#[99, 101, 113]⟩, .string ⟨#[99, 114, 101, 102, 108]⟩]

theorem sym_cell (w : World) (t : TypeId) (n : Nat) (h : n < 21) : (w.alloc (.cells symBlock t)).cell? ⟨w.heap.size, n, none⟩ = some (.string ⟨(symWords.getD n []).toArray⟩) := by
  have e : (w.alloc (.cells symBlock t)).cell? ⟨w.heap.size, n, none⟩ = symBlock[n]? := by simp [go_sem]
  rw [e]
  match n, h with
  | 0, _ | 1, _ | 2, _ | 3, _ | 4, _ | 5, _ | 6, _ | 7, _ | 8, _ | 9, _ | 10, _ | 11, _ | 12, _ | 13, _ | 14, _ | 15, _ | 16, _ | 17, _ | 18, _ | 19, _ | 20, _ => rfl
  | k + 21, h => exact absurd h (by omega)

set_option maxHeartbeats 4000000 in
set_option maxRecDepth 100000 in
theorem names_any (w : World) : Calls Tryd.prog 25 #[] w fun e w' => e = .returned (.slice (some ⟨w.heap.size, 0, none⟩) 21 21) ∧ Below w.heap.size w w' ∧ ∀ m, m < 21 → w'.cell? ⟨w.heap.size, m, none⟩ = some (.string ⟨(symWords.getD m []).toArray⟩) := by
  have HC := Lib.hid fun m hm => sym_cell w 9 m hm
  go_enter Tryd.func25, Tryd.ntmps25
  go_wp2
  go_ret
  exact ⟨rfl, below_alloc _ _, HC.out⟩

set_option maxHeartbeats 4000000 in
set_option maxRecDepth 100000 in
theorem rnames_any (w : World) : Calls Tryd.prog 61 #[] w fun e w' => e = .returned (.slice (some ⟨w.heap.size, 0, none⟩) 21 21) ∧ Below w.heap.size w w' ∧ ∀ m, m < 21 → w'.cell? ⟨w.heap.size, m, none⟩ = some (.string ⟨(symWords.getD m []).toArray⟩) := by
  have HC := Lib.hid fun m hm => sym_cell w 9 m hm
  go_enter Tryd.func61, Tryd.ntmps61
  go_wp2
  go_ret
  exact ⟨rfl, below_alloc _ _, HC.out⟩

set_option maxHeartbeats 4000000 in
set_option maxRecDepth 100000 in
theorem readName_any (n : Int) (w : World) (h0 : In64 n) : Calls Tryd.prog 13 #[.int .i64 n] w fun e w' => e = .returned (.string ⟨(symK n).toArray⟩) ∧ Below w.heap.size w w' := by
  obtain ⟨n1, n2⟩ := h0
  by_cases h : 1 ≤ n ∧ n ≤ 21
  · obtain ⟨m, hm, en⟩ : ∃ m : Nat, m < 21 ∧ n - 1 = (m : Int) := ⟨(n - 1).toNat, by omega, by omega⟩
    have HV : Hid (symK n = symWords.getD m []) := Lib.hid (by
      unfold symK
      rw [if_neg (by omega), en, Int.toNat_natCast])
    have e1 : ¬ (n < 1) := by omega
    have e2 : ¬ (21 < n) := by omega
    clear h
    go_enter Tryd.func13, Tryd.ntmps13
    go_wp2_with fail
    refine (names_any _).mono ?_
    rintro e w1 ⟨rfl, hb1, hc1⟩
    have HB1 := Lib.hid hb1
    have hcell := hc1 m hm
    clear hb1 hc1
    generalize symWords.getD m [] = sw at HV hcell
    go_wp2
    go_ret
    exact ⟨by rw [HV.out]; rfl, HB1.out⟩
  · have HV : Hid (symK n = []) := Lib.hid (by unfold symK; rw [if_pos (by omega)])
    by_cases h1 : n < 1
    · clear h
      go_enter Tryd.func13, Tryd.ntmps13
      go_wp2_with fail
      refine (names_any _).mono ?_
      rintro e w1 ⟨rfl, hb1, hc1⟩
      have HB1 := Lib.hid hb1
      clear hb1 hc1
      go_wp2
      go_ret
      exact ⟨by rw [HV.out]; rfl, HB1.out⟩
    · have h2 : 21 < n := by omega
      clear h
      go_enter Tryd.func13, Tryd.ntmps13
      go_wp2_with fail
      refine (names_any _).mono ?_
      rintro e w1 ⟨rfl, hb1, hc1⟩
      have HB1 := Lib.hid hb1
      clear hb1 hc1
      go_wp2
      go_ret
      exact ⟨by rw [HV.out]; rfl, HB1.out⟩



def wordF (k n : Int) : List UInt8 := wordK k ++ (if k = 23 then 32 :: symK n else [])


end Go.Proofs.YtfklmcmoackepaaDoor

namespace Go.Proofs.YtfklmcmoackepaaDoor
open Go.RowKit

/-- what stands behind a list's word, a letter each -/
def shapeK (kd : Nat) : List UInt8 :=
  match kd with
  | 1 => [76]
  | 3 => [76, 77, 120, 116, 98]
  | 4 => [76, 77, 120, 116, 98, 98]
  | 5 => [76, 77, 120, 116, 98, 116, 116]
  | 6 => [76, 77, 120, 116, 98]
  | 7 => [76, 77, 120, 116, 98, 116, 116]
  | 8 => [76, 77, 120, 116, 98, 116]
  | 9 => [76, 77, 120, 116, 98, 116]
  | 10 => [76, 116, 116, 116]
  | 11 => [76, 116, 116]
  | 12 => [76, 116, 116, 112, 116]
  | 13 => [120, 116, 98]
  | 14 => [120, 116, 98]
  | 15 => [116, 116]
  | 16 => [120, 116, 98]
  | 17 => [120, 116, 98, 116, 116]
  | 18 => [116]
  | 19 => [116]
  | 20 => [116, 116, 116]
  | 21 => [116, 116]
  | 22 => [116, 116, 121, 101, 80, 116, 116, 116]
  | 23 => [83, 76, 77]
  | _ => []

theorem kindW_none {tx : List UInt8} (h : ∀ w ∈ markWords, w ≠ [] → tx ≠ w) : kindW tx = 0 := by
  unfold kindW
  by_cases h0 : tx = []
  · rw [if_pos h0]
  · rw [if_neg h0]
    have hn : tx ∉ markWords := fun hm => h tx hm h0 rfl
    exact if_neg (fun hlt => hn (List.idxOf_lt_length_iff.1 (show markWords.idxOf tx < markWords.length from hlt)))

set_option maxHeartbeats 4000000 in
set_option maxRecDepth 100000 in
theorem plainF_any (tx : List UInt8) (w : World) : Calls Tryd.prog 57 #[.string ⟨tx.toArray⟩] w fun e w' => e = .returned (.tuple #[.int .i64 (if kindW tx ≤ 12 then 0 else kindW tx : Nat), .string ⟨(shapeK (if kindW tx ≤ 12 then 0 else kindW tx)).toArray⟩]) ∧ w' = w := by
  by_cases hm : tx = [80, 105] ∨ tx = [76, 97, 109] ∨ tx = [65, 112, 112] ∨ tx = [83, 105, 103] ∨ tx = [80, 97, 105, 114] ∨ tx = [70, 115, 116] ∨ tx = [83, 110, 100] ∨ tx = [69, 113] ∨ tx = [82, 101, 102, 108] ∨ tx = [74] ∨ tx = [117, 115, 101]
  · rcases hm with rfl | rfl | rfl | rfl | rfl | rfl | rfl | rfl | rfl | rfl | rfl
    all_goals (go_enter Tryd.func57, Tryd.ntmps57; go_wp2; go_ret2; exact ⟨rfl, rfl⟩)
  · have HK : Hid ((if kindW tx ≤ 12 then 0 else kindW tx) = 0) := Lib.hid (by
      by_cases hk : tx = [115, 111, 114, 116] ∨ tx = [112, 105] ∨ tx = [108, 97, 109] ∨ tx = [97, 112, 112] ∨ tx = [115, 105, 103] ∨ tx = [112, 97, 105, 114] ∨ tx = [102, 115, 116] ∨ tx = [115, 110, 100] ∨ tx = [101, 113] ∨ tx = [114, 101, 102, 108] ∨ tx = [116, 114]
      · rcases hk with rfl | rfl | rfl | rfl | rfl | rfl | rfl | rfl | rfl | rfl | rfl
        all_goals rfl
      · rw [kindW_none (fun w hw h0 e => by
          simp only [markWords, List.mem_cons, List.not_mem_nil, or_false] at hw
          subst e
          rcases hw with h | h | h | h | h | h | h | h | h | h | h | h | h | h | h | h | h | h | h | h | h | h | h
          all_goals first
            | exact h0 h
            | exact hm (by rw [h]; decide)
            | exact hk (by rw [h]; decide))]
        rfl)
    have x13 : (tx == [80, 105]) = false := by simp; intro e; exact hm (by rw [e]; decide)
    have x14 : (tx == [76, 97, 109]) = false := by simp; intro e; exact hm (by rw [e]; decide)
    have x15 : (tx == [65, 112, 112]) = false := by simp; intro e; exact hm (by rw [e]; decide)
    have x16 : (tx == [83, 105, 103]) = false := by simp; intro e; exact hm (by rw [e]; decide)
    have x17 : (tx == [80, 97, 105, 114]) = false := by simp; intro e; exact hm (by rw [e]; decide)
    have x18 : (tx == [70, 115, 116]) = false := by simp; intro e; exact hm (by rw [e]; decide)
    have x19 : (tx == [83, 110, 100]) = false := by simp; intro e; exact hm (by rw [e]; decide)
    have x20 : (tx == [69, 113]) = false := by simp; intro e; exact hm (by rw [e]; decide)
    have x21 : (tx == [82, 101, 102, 108]) = false := by simp; intro e; exact hm (by rw [e]; decide)
    have x22 : (tx == [74]) = false := by simp; intro e; exact hm (by rw [e]; decide)
    have x23 : (tx == [117, 115, 101]) = false := by simp; intro e; exact hm (by rw [e]; decide)
    clear hm
    rw [HK.out]
    go_enter Tryd.func57, Tryd.ntmps57
    go_wp2
    go_ret2
    exact ⟨rfl, rfl⟩

set_option maxHeartbeats 4000000 in
set_option maxRecDepth 100000 in
theorem form_any (tx : List UInt8) (w : World) : Calls Tryd.prog 48 #[.string ⟨tx.toArray⟩] w fun e w' => e = .returned (.tuple #[.int .i64 (kindW tx : Nat), .string ⟨(shapeK (kindW tx)).toArray⟩]) ∧ w' = w := by
  by_cases hm : tx = [115, 111, 114, 116] ∨ tx = [112, 105] ∨ tx = [108, 97, 109] ∨ tx = [97, 112, 112] ∨ tx = [115, 105, 103] ∨ tx = [112, 97, 105, 114] ∨ tx = [102, 115, 116] ∨ tx = [115, 110, 100] ∨ tx = [101, 113] ∨ tx = [114, 101, 102, 108] ∨ tx = [116, 114]
  · rcases hm with rfl | rfl | rfl | rfl | rfl | rfl | rfl | rfl | rfl | rfl | rfl
    all_goals (go_enter Tryd.func48, Tryd.ntmps48; go_wp2; go_ret2; exact ⟨rfl, rfl⟩)
  · have HK : Hid ((if kindW tx ≤ 12 then 0 else kindW tx) = kindW tx) := Lib.hid (by
      by_cases hk : tx = [80, 105] ∨ tx = [76, 97, 109] ∨ tx = [65, 112, 112] ∨ tx = [83, 105, 103] ∨ tx = [80, 97, 105, 114] ∨ tx = [70, 115, 116] ∨ tx = [83, 110, 100] ∨ tx = [69, 113] ∨ tx = [82, 101, 102, 108] ∨ tx = [74] ∨ tx = [117, 115, 101]
      · rcases hk with rfl | rfl | rfl | rfl | rfl | rfl | rfl | rfl | rfl | rfl | rfl
        all_goals rfl
      · rw [kindW_none (fun w hw h0 e => by
          simp only [markWords, List.mem_cons, List.not_mem_nil, or_false] at hw
          subst e
          rcases hw with h | h | h | h | h | h | h | h | h | h | h | h | h | h | h | h | h | h | h | h | h | h | h
          all_goals first
            | exact h0 h
            | exact hm (by rw [h]; decide)
            | exact hk (by rw [h]; decide))]
        rfl)
    have x1 : (tx == [115, 111, 114, 116]) = false := by simp; intro e; exact hm (by rw [e]; decide)
    have x3 : (tx == [112, 105]) = false := by simp; intro e; exact hm (by rw [e]; decide)
    have x4 : (tx == [108, 97, 109]) = false := by simp; intro e; exact hm (by rw [e]; decide)
    have x5 : (tx == [97, 112, 112]) = false := by simp; intro e; exact hm (by rw [e]; decide)
    have x6 : (tx == [115, 105, 103]) = false := by simp; intro e; exact hm (by rw [e]; decide)
    have x7 : (tx == [112, 97, 105, 114]) = false := by simp; intro e; exact hm (by rw [e]; decide)
    have x8 : (tx == [102, 115, 116]) = false := by simp; intro e; exact hm (by rw [e]; decide)
    have x9 : (tx == [115, 110, 100]) = false := by simp; intro e; exact hm (by rw [e]; decide)
    have x10 : (tx == [101, 113]) = false := by simp; intro e; exact hm (by rw [e]; decide)
    have x11 : (tx == [114, 101, 102, 108]) = false := by simp; intro e; exact hm (by rw [e]; decide)
    have x12 : (tx == [116, 114]) = false := by simp; intro e; exact hm (by rw [e]; decide)
    clear hm
    have hp := plainF_any tx w
    rw [HK.out] at hp
    have HP := Lib.hid hp
    clear hp
    go_enter Tryd.func48, Tryd.ntmps48
    go_wp2_with fail
    refine HP.out.mono ?_
    rintro e w1 ⟨rfl, rfl⟩
    go_wp2
    go_ret2
    exact ⟨rfl, rfl⟩

theorem sym_step {s : List UInt8} {k : Nat} (h : k ≤ symWords.idxOf s) (hk : k < 21) : if symWords.getD k [] = s then symI s = k + 1 else k + 1 ≤ symWords.idxOf s := by
  have hl : k < symWords.length := hk
  split
  · rename_i he
    rw [List.getD_eq_getElem?_getD, List.getElem?_eq_getElem hl, Option.getD_some] at he
    have h2 : symWords.idxOf s ≤ k := by
      rcases Nat.lt_or_ge k (symWords.idxOf s) with h3 | h3
      · have := List.not_of_lt_findIdx (p := fun x => x == s) (xs := symWords) (i := k) h3
        simp [he] at this
      · exact h3
    have : symWords.idxOf s = k := by omega
    unfold symI
    rw [if_pos (by omega), this]
  · rename_i he
    rcases Nat.lt_or_ge k (symWords.idxOf s) with h3 | h3
    · exact h3
    · exfalso
      have h4 : symWords.idxOf s = k := by omega
      have h5 : symWords.idxOf s < symWords.length := by omega
      have h6 := List.getElem_idxOf h5
      apply he
      rw [List.getD_eq_getElem?_getD, List.getElem?_eq_getElem hl, Option.getD_some]
      simp only [h4] at h6
      exact h6
theorem sym_end {s : List UInt8} (h : 21 ≤ symWords.idxOf s) : symI s = 0 := by
  unfold symI; rw [if_neg (by omega)]
theorem symI_le (s : List UInt8) : symI s ≤ 21 := by unfold symI; split <;> omega

set_option maxHeartbeats 4000000 in
set_option maxRecDepth 100000 in
theorem symbol_any (s : ByteArray) (w : World) : Calls Tryd.prog 60 #[.string s] w fun e w' => e = .returned (.int .i64 (symI s.data.toList : Nat)) ∧ Below w.heap.size w w' := by
  go_enter Tryd.func60, Tryd.ntmps60
  go_wp2_with fail
  refine (names_any _).mono ?_
  rintro e w1 ⟨rfl, hb1, hc1⟩
  have HC := Lib.hid hc1
  have HB := Lib.hid hb1
  clear hb1 hc1
  go_wp2_with fail
  go_loop [7] (fun i => ∃ k : Nat, k ≤ 21 ∧ i = .int .i64 k ∧ k ≤ symWords.idxOf s.data.toList) (fun i => 21 - (intOf i).toNat)
  case atStart => exact ⟨0, by omega, rfl, Nat.zero_le _⟩
  case round =>
    obtain ⟨k, hk, rfl, hidx⟩ := hrel
    by_cases hlt : k < 21
    · have hc := HC.out k hlt
      have hst := sym_step hidx hlt
      have HST := Lib.hid hst
      clear hst hidx
      generalize symWords.getD k [] = wd at hc HST
      by_cases he : wd = s.data.toList
      · have hr := HST.out
        rw [if_pos he] at hr
        have HR := Lib.hid hr
        have hb2 : (wd == s.toList) = true := by rw [ByteArray.toList_eq, he]; simp
        clear hr he
        go_wp2
        go_ret
        exact ⟨by rw [HR.out]; exact retInt (by go_num), HB.out⟩
      · have hr := HST.out
        rw [if_neg he] at hr
        have HR := Lib.hid hr
        have hb2 : (wd == s.toList) = false := by rw [ByteArray.toList_eq]; simpa using he
        clear hr he
        go_wp2
        go_round
        case rel => exact ⟨k + 1, by omega, by go_num, HR.out⟩
        case measure => simp [intOf]; omega
    · have hk2 : k = 21 := by omega
      subst hk2
      have HR := Lib.hid (sym_end hidx)
      clear hidx
      go_wp2
      go_ret
      exact ⟨by rw [HR.out]; rfl, HB.out⟩

set_option maxHeartbeats 4000000 in
set_option maxRecDepth 100000 in
theorem rsymbol_any (s : ByteArray) (w : World) : Calls Tryd.prog 52 #[.string s] w fun e w' => e = .returned (.int .i64 (symI s.data.toList : Nat)) ∧ Below w.heap.size w w' := by
  go_enter Tryd.func52, Tryd.ntmps52
  go_wp2_with fail
  refine (rnames_any _).mono ?_
  rintro e w1 ⟨rfl, hb1, hc1⟩
  have HC := Lib.hid hc1
  have HB := Lib.hid hb1
  clear hb1 hc1
  go_wp2_with fail
  go_loop [4] (fun i => ∃ k : Nat, k ≤ 21 ∧ i = .int .i64 k ∧ k ≤ symWords.idxOf s.data.toList) (fun i => 21 - (intOf i).toNat)
  case atStart => exact ⟨0, by omega, rfl, Nat.zero_le _⟩
  case round =>
    obtain ⟨k, hk, rfl, hidx⟩ := hrel
    by_cases hlt : k < 21
    · have hc := HC.out k hlt
      have hst := sym_step hidx hlt
      have HST := Lib.hid hst
      clear hst hidx
      generalize symWords.getD k [] = wd at hc HST
      by_cases he : wd = s.data.toList
      · have hr := HST.out
        rw [if_pos he] at hr
        have HR := Lib.hid hr
        have hb2 : (wd == s.toList) = true := by rw [ByteArray.toList_eq, he]; simp
        clear hr he
        go_wp2
        go_ret
        exact ⟨by rw [HR.out]; exact retInt (by go_num), HB.out⟩
      · have hr := HST.out
        rw [if_neg he] at hr
        have HR := Lib.hid hr
        have hb2 : (wd == s.toList) = false := by rw [ByteArray.toList_eq]; simpa using he
        clear hr he
        go_wp2
        go_round
        case rel => exact ⟨k + 1, by omega, by go_num, HR.out⟩
        case measure => simp [intOf]; omega
    · have hk2 : k = 21 := by omega
      subst hk2
      have HR := Lib.hid (sym_end hidx)
      clear hidx
      go_wp2
      go_ret
      exact ⟨by rw [HR.out]; rfl, HB.out⟩

end Go.Proofs.YtfklmcmoackepaaDoor
