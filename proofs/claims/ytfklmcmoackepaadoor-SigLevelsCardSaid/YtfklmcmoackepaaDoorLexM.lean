/- The lexer on lists: what lex.Lex tells. -/
import Derived.Test.YtfklmcmoackepaaDoorLexN
namespace Go.Proofs.YtfklmcmoackepaaDoor
open Go.RowKit

structure Tok where
  kind : Nat
  text : List UInt8
  pos : Nat
deriving DecidableEq

/-- the tokens of a text that begins with no blank, at a place; the first fault -/
def lexR : Nat → List UInt8 → Nat → List Tok × Option Nat
  | 0, _, _ => ([], none)
  | f + 1, r, pos =>
    if r = [] then ([], none)
    else if (oneL r).2.2 = true then
      let n := (oneL r).2.1.length
      let r2 := skip false (r.drop n)
      let x := lexR f r2 (pos + n + ((r.drop n).length - r2.length))
      (⟨(oneL r).1, (oneL r).2.1, pos⟩ :: x.1, x.2)
    else ([], some pos)
/-- of a text that may begin with blanks -/
def lexS (f : Nat) (r : List UInt8) (pos : Nat) : List Tok × Option Nat := lexR f (skip false r) (pos + (r.length - (skip false r).length))
def lexL (l : List UInt8) : List Tok × Option Nat := lexS (l.length + 1) l 0

theorem skip_le : ∀ (b : Bool) (l : List UInt8), (skip b l).length ≤ l.length
  | b, [] => by cases b <;> simp [skip]
  | false, c :: r => by
    simp only [skip]
    split
    · have := skip_le false r; simp; omega
    · split
      · have := skip_le true r; simp; omega
      · simp
  | true, c :: r => by
    simp only [skip]
    split
    · have := skip_le false r; simp; omega
    · have := skip_le true r; simp; omega

theorem oneL_len : ∀ (r : List UInt8), (oneL r).2.2 = true → 0 < (oneL r).2.1.length
  | [], h => by simp [oneL] at h
  | c :: r, h => by
    simp only [oneL] at *
    by_cases h1 : c.toNat = 40
    · simp [h1]
    by_cases h2 : c.toNat = 41
    · simp [h2]
    by_cases h3 : isLetter c.toNat = true
    · simp [h1, h2, h3]
    by_cases h4 : isDigit c.toNat = true
    · simp [h1, h2, h3, h4]
    · simp [h1, h2, h3, h4] at h

/-- more fuel turns nothing -/
theorem lexR_fuel : ∀ (f g : Nat) (r : List UInt8) (pos : Nat), r.length < f → r.length < g → lexR f r pos = lexR g r pos
  | 0, _, _, _, h, _ => absurd h (by omega)
  | _, 0, _, _, _, h => absurd h (by omega)
  | f + 1, g + 1, r, pos, hf, hg => by
    unfold lexR
    by_cases hr : r = []
    · simp [hr]
    · rw [if_neg hr, if_neg hr]
      by_cases h : (oneL r).2.2 = true
      · rw [if_pos h, if_pos h]
        have hl := oneL_len r h
        have h2 : (skip false (r.drop (oneL r).2.1.length)).length < r.length := by
          have h3 := skip_le false (r.drop (oneL r).2.1.length)
          have h4 : 0 < r.length := List.length_pos_iff.2 hr
          rw [List.length_drop] at h3
          omega
        dsimp only
        rw [lexR_fuel f g _ _ (by omega) (by omega)]
      · rw [if_neg h, if_neg h]

theorem lexR_nil (f : Nat) (pos : Nat) : lexR f [] pos = ([], none) := by cases f <;> simp [lexR]
theorem lexR_bad {f : Nat} {r : List UInt8} {pos : Nat} (hr : r ≠ []) (hf : r.length < f) (h : (oneL r).2.2 = false) : lexR f r pos = ([], some pos) := by
  cases f with
  | zero => omega
  | succ f => simp [lexR, hr, h]
theorem lexR_good {f : Nat} {r : List UInt8} {pos : Nat} (hr : r ≠ []) (hf : r.length < f) (h : (oneL r).2.2 = true) :
    lexR f r pos = (⟨(oneL r).1, (oneL r).2.1, pos⟩ :: (lexS f (r.drop (oneL r).2.1.length) (pos + (oneL r).2.1.length)).1, (lexS f (r.drop (oneL r).2.1.length) (pos + (oneL r).2.1.length)).2) := by
  have hl := oneL_len r h
  have h4 : 0 < r.length := List.length_pos_iff.2 hr
  have h2 : (skip false (r.drop (oneL r).2.1.length)).length < r.length := by
    have h3 := skip_le false (r.drop (oneL r).2.1.length)
    rw [List.length_drop] at h3
    omega
  obtain ⟨g, rfl⟩ : ∃ g, f = g + 1 := ⟨f - 1, by omega⟩
  unfold lexS
  rw [lexR_fuel (g + 1) g (skip false (r.drop (oneL r).2.1.length)) _ (by omega) (by omega)]
  conv => lhs; unfold lexR
  rw [if_neg hr, if_pos h]

/-- tokens as cells -/
def tokCells (t : Tok) : List Value := [.int .i64 t.kind, .string ⟨t.text.toArray⟩, .int .i64 t.pos]
def toksCells (l : List Tok) : List Value := l.flatMap tokCells
theorem toksCells_length (l : List Tok) : (toksCells l).length = l.length * 3 := by
  induction l with
  | nil => rfl
  | cons t l ih => simp only [toksCells, List.flatMap_cons, List.length_append, List.length_cons] at *; rw [ih]; simp [tokCells]; omega
theorem toksCells_append (a b : List Tok) : toksCells (a ++ b) = toksCells a ++ toksCells b := by simp [toksCells]
theorem toksCells_one (l : List Tok) : ∀ u ∈ toksCells l, u.oneCell' = true := by
  intro u hu
  obtain ⟨t, _, h⟩ := List.mem_flatMap.1 hu
  simp [tokCells] at h
  rcases h with rfl | rfl | rfl <;> rfl
theorem toksCells_at : ∀ (l : List Tok) (i : Nat) (h : i < l.length), (toksCells l)[i * 3]? = some (.int .i64 l[i].kind) ∧ (toksCells l)[i * 3 + 1]? = some (.string ⟨l[i].text.toArray⟩) ∧ (toksCells l)[i * 3 + 2]? = some (.int .i64 l[i].pos)
  | t :: l, 0, _ => ⟨rfl, rfl, rfl⟩
  | t :: l, i + 1, h => by
    have := toksCells_at l i (by simpa using h)
    simp only [toksCells, List.flatMap_cons] at *
    have e : ∀ j, (tokCells t ++ List.flatMap tokCells l)[(i + 1) * 3 + j]? = (List.flatMap tokCells l)[i * 3 + j]? := by
      intro j
      rw [List.getElem?_append_right (by simp [tokCells]; omega)]
      congr 1
      simp [tokCells]; omega
    have e0 := e 0
    simp only [Nat.add_zero] at e0
    rw [e0, e 1, e 2]
    simpa using this
end Go.Proofs.YtfklmcmoackepaaDoor
