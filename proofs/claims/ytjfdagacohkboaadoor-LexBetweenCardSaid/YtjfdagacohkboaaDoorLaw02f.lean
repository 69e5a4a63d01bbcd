/- Texts joined by a line end: the plain law behind LexBehind. -/
import Derived.Test.YtjfdagacohkboaaDoorLaw02e
namespace Go.Proofs.YtjfdagacohkboaaDoor
open Go.RowKit

/-- a line end behind a text: what is left behind blanks -/
theorem skip_line : ∀ (b : Bool) (r t : List UInt8), skip b (r ++ 10 :: t) = if skip b r = [] then skip false t else skip b r ++ 10 :: t
  | b, [], t => by cases b <;> simp [skip]
  | false, c :: r, t => by
    have h1 := skip_line false r t
    have h2 := skip_line true r t
    simp only [List.cons_append, skip]
    split
    · exact h1
    · split
      · exact h2
      · simp
  | true, c :: r, t => by
    have h1 := skip_line false r t
    have h2 := skip_line true r t
    simp only [List.cons_append, skip]
    split
    · exact h1
    · exact h2

theorem takeWhile_line {p : UInt8 → Bool} (hp : p 10 = false) : ∀ (r t : List UInt8), (r ++ 10 :: t).takeWhile p = r.takeWhile p
  | [], t => by simp [List.takeWhile_cons, hp]
  | c :: r, t => by
    rw [List.cons_append, List.takeWhile_cons, List.takeWhile_cons, takeWhile_line hp r t]
theorem dropWhile_line {p : UInt8 → Bool} (hp : p 10 = false) : ∀ (r t : List UInt8), (r ++ 10 :: t).dropWhile p = r.dropWhile p ++ 10 :: t
  | [], t => by simp [List.dropWhile_cons, hp]
  | c :: r, t => by
    rw [List.cons_append, List.dropWhile_cons, List.dropWhile_cons, dropWhile_line hp r t]
    split <;> rfl

theorem oneL_line (c : UInt8) (r t : List UInt8) : oneL (c :: r ++ 10 :: t) = oneL (c :: r) := by
  have h1 := takeWhile_line (p := isAlnum) (by decide) r t
  have h2 := takeWhile_line (p := isDig) (by decide) r t
  have h3 := dropWhile_line (p := isDig) (by decide) r t
  simp only [List.cons_append, oneL, h1, h2, h3]
  have h4 : ((r.dropWhile isDig ++ 10 :: t).head?.any fun d => isLetter d.toNat) = ((r.dropWhile isDig).head?.any fun d => isLetter d.toNat) := by
    cases r.dropWhile isDig with
    | nil => simp [isLetter]
    | cons d x => simp
  rw [h4]

def shiftT (d : Nat) (t : Tok) : Tok := ⟨t.kind, t.text, t.pos + d⟩
def shiftX (d : Nat) (x : List Tok × Option Nat) : List Tok × Option Nat := (x.1.map (shiftT d), x.2.map (· + d))
theorem lexR_shift : ∀ (f : Nat) (r : List UInt8) (pos d : Nat), lexR f r (pos + d) = shiftX d (lexR f r pos)
  | 0, _, _, _ => rfl
  | f + 1, r, pos, d => by
    unfold lexR
    split
    · rfl
    · split
      · dsimp only
        have := lexR_shift f (skip false (r.drop (oneL r).2.1.length)) (pos + (oneL r).2.1.length + ((r.drop (oneL r).2.1.length).length - (skip false (r.drop (oneL r).2.1.length)).length)) d
        rw [show pos + d + (oneL r).2.1.length + ((r.drop (oneL r).2.1.length).length - (skip false (r.drop (oneL r).2.1.length)).length) = pos + (oneL r).2.1.length + ((r.drop (oneL r).2.1.length).length - (skip false (r.drop (oneL r).2.1.length)).length) + d by omega, this]
        rfl
      · rfl
theorem lexS_shift (f : Nat) (r : List UInt8) (pos d : Nat) : lexS f r (pos + d) = shiftX d (lexS f r pos) := by
  unfold lexS
  rw [← lexR_shift]
  congr 1
  omega
theorem lexS_fuel (f g : Nat) (r : List UInt8) (pos : Nat) (h1 : r.length < f) (h2 : r.length < g) : lexS f r pos = lexS g r pos := by
  have := skip_le false r
  unfold lexS
  exact lexR_fuel _ _ _ _ (by omega) (by omega)

/-- x, and if it has no fault, y behind it -/
def thenX (x y : List Tok × Option Nat) : List Tok × Option Nat := match x.2 with | some p => (x.1, some p) | none => (x.1 ++ y.1, y.2)

theorem lexS_line : ∀ (f : Nat) (r t : List UInt8) (pos : Nat), r.length + t.length + 1 < f → lexS f (r ++ 10 :: t) pos = thenX (lexS f r pos) (lexS f t (pos + r.length + 1))
  | 0, _, _, _, h => by omega
  | f + 1, r, t, pos, h => by
    have hs := skip_line false r t
    have hr := skip_le false r
    by_cases h0 : skip false r = []
    · rw [if_pos h0] at hs
      have ht := skip_le false t
      have e1 : lexS (f + 1) r pos = ([], none) := by unfold lexS; rw [h0, lexR_nil]
      rw [e1]
      show _ = (_, _)
      unfold lexS
      rw [hs]
      have e2 : pos + ((r ++ 10 :: t).length - (skip false t).length) = pos + r.length + 1 + (t.length - (skip false t).length) := by
        rw [List.length_append, List.length_cons]; omega
      rw [e2]
      simp [thenX]
    · rw [if_neg h0] at hs
      have hx : ∀ (x : List UInt8), skip false r = x → lexS (f + 1) (r ++ 10 :: t) pos = thenX (lexS (f + 1) r pos) (lexS (f + 1) t (pos + r.length + 1)) := by
        intro x hx
        cases x with
        | nil => exact absurd hx h0
        | cons c r1 =>
          rw [hx] at hr
          have hp1 : lexS (f + 1) r pos = lexR (f + 1) (c :: r1) (pos + (r.length - (c :: r1).length)) := by unfold lexS; rw [hx]
          have hp2 : lexS (f + 1) (r ++ 10 :: t) pos = lexR (f + 1) (c :: r1 ++ 10 :: t) (pos + (r.length - (c :: r1).length)) := by
            unfold lexS
            rw [hs, hx]
            congr 1
            simp only [List.length_append, List.length_cons] at *
            omega
          rw [hp1, hp2]
          have ho := oneL_line c r1 t
          have hq0 : pos + r.length + 1 = (pos + (r.length - (c :: r1).length)) + (c :: r1).length + 1 := by omega
          rw [hq0]
          generalize pos + (r.length - (c :: r1).length) = q
          have hl2 : (c :: r1 ++ 10 :: t).length < f + 1 := by simp only [List.length_append, List.length_cons] at *; omega
          have hl1 : (c :: r1).length < f + 1 := by simp only [List.length_append, List.length_cons] at *; omega
          have g1 := oneL_le (c :: r1) (by simp)
          have g2 := oneL_len (c :: r1)
          have b1 := lexR_bad (f := f + 1) (r := c :: r1) (pos := q) (by simp) hl1
          have b2 := lexR_bad (f := f + 1) (r := c :: r1 ++ 10 :: t) (pos := q) (by simp) hl2
          have k1 := lexR_good (f := f + 1) (r := c :: r1) (pos := q) (by simp) hl1
          have k2 := lexR_good (f := f + 1) (r := c :: r1 ++ 10 :: t) (pos := q) (by simp) hl2
          rw [ho] at b2 k2
          cases hone : oneL (c :: r1) with
          | mk kind r2 =>
          obtain ⟨text, ok⟩ := r2
          rw [hone] at g1 g2 b1 b2 k1 k2
          dsimp only at g1 g2 b1 b2 k1 k2
          cases ok
          · rw [b1 rfl, b2 rfl]
            rfl
          · have g2 := g2 rfl
            rw [k1 rfl, k2 rfl]
            have hd : (c :: r1 ++ 10 :: t).drop text.length = (c :: r1).drop text.length ++ 10 :: t := List.drop_append_of_le_length g1
            rw [hd]
            have hlen : ((c :: r1).drop text.length ++ 10 :: t).length < f := by
              simp only [List.length_append, List.length_drop, List.length_cons] at *; omega
            have ih := lexS_line f ((c :: r1).drop text.length) t (q + text.length) (by simp only [List.length_append, List.length_drop, List.length_cons] at *; omega)
            rw [lexS_fuel (f + 1) f _ _ (by omega) hlen, ih]
            have e3 : q + text.length + ((c :: r1).drop text.length).length + 1 = q + (c :: r1).length + 1 := by
              rw [List.length_drop]; omega
            rw [e3]
            have hd1 : ((c :: r1).drop text.length).length < f := by simp only [List.length_append, List.length_drop, List.length_cons] at *; omega
            rw [lexS_fuel (f + 1) f ((c :: r1).drop text.length) _ (by omega) hd1]
            have hd2 : t.length < f := by simp only [List.length_append, List.length_cons] at *; omega
            rw [lexS_fuel (f + 1) f t _ (by omega) hd2]
            cases lexS f ((c :: r1).drop text.length) (q + text.length) with
            | mk x1 x2 => cases x2 <;> rfl
      exact hx _ rfl

/-- the tokens of two texts that a line end joins -/
theorem lexL_line (a b : List UInt8) : lexL (a ++ 10 :: b) = thenX (lexL a) (shiftX (a.length + 1) (lexL b)) := by
  have h := lexS_line ((a ++ 10 :: b).length + 1) a b 0 (by simp)
  unfold lexL
  rw [h]
  have h1 := lexS_shift ((a ++ 10 :: b).length + 1) b 0 (a.length + 1)
  rw [show 0 + a.length + 1 = 0 + (a.length + 1) by omega, h1]
  rw [lexS_fuel ((a ++ 10 :: b).length + 1) (a.length + 1) a 0 (by simp; omega) (by omega)]
  rw [lexS_fuel ((a ++ 10 :: b).length + 1) (b.length + 1) b 0 (by simp; omega) (by omega)]
end Go.Proofs.YtjfdagacohkboaaDoor
