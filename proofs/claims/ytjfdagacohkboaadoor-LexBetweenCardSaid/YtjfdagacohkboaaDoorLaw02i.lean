/- Tokens with blanks and remarks between them: the plain law behind LexBetween. -/
import Derived.Test.YtjfdagacohkboaaDoorLaw02f
namespace Go.Proofs.YtjfdagacohkboaaDoor
open Go.RowKit

/-- kinds and texts alone -/
def eraseT (t : Tok) : Nat × List UInt8 := (t.kind, t.text)
def eraseX (x : List Tok × Option Nat) : List (Nat × List UInt8) × Bool := (x.1.map eraseT, x.2.isSome)
theorem eraseX_shift (d : Nat) (x : List Tok × Option Nat) : eraseX (shiftX d x) = eraseX x := by
  unfold eraseX shiftX
  simp [Function.comp_def, shiftT, eraseT]
theorem erase_pos (f : Nat) (r : List UInt8) (p q : Nat) : eraseX (lexR f r p) = eraseX (lexR f r q) := by
  have h1 := lexR_shift f r 0 p
  have h2 := lexR_shift f r 0 q
  rw [Nat.zero_add] at h1 h2
  rw [h1, h2, eraseX_shift, eraseX_shift]

/-- what is lexed, places aside -/
def lexE (l : List UInt8) : List (Nat × List UInt8) × Bool := eraseX (lexL l)
theorem lexE_eq (l : List UInt8) (f p : Nat) (h : l.length < f) : lexE l = eraseX (lexR f (skip false l) p) := by
  have := skip_le false l
  unfold lexE lexL lexS
  rw [lexR_fuel (l.length + 1) f _ _ (by omega) (by omega)]
  exact erase_pos _ _ _ _
theorem lexE_skip (a b : List UInt8) (h : skip false a = skip false b) : lexE a = lexE b := by
  rw [lexE_eq a (a.length + b.length + 1) 0 (by omega), lexE_eq b (a.length + b.length + 1) 0 (by omega), h]

/-- a byte that ends a token -/
def sep (c : UInt8) : Prop := c = 32 ∨ c = 9 ∨ c = 10 ∨ c = 59
theorem takeWhile_sep {p : UInt8 → Bool} {c : UInt8} (hp : p c = false) : ∀ (a z : List UInt8), a.all p = true → (a ++ c :: z).takeWhile p = a
  | [], z, _ => by simp [List.takeWhile_cons, hp]
  | d :: a, z, h => by
    rw [List.all_cons, Bool.and_eq_true] at h
    rw [List.cons_append, List.takeWhile_cons, if_pos h.1, takeWhile_sep hp a z h.2]
theorem dropWhile_sep {p : UInt8 → Bool} {c : UInt8} (hp : p c = false) : ∀ (a z : List UInt8), a.all p = true → (a ++ c :: z).dropWhile p = c :: z
  | [], z, _ => by simp [List.dropWhile_cons, hp]
  | d :: a, z, h => by
    rw [List.all_cons, Bool.and_eq_true] at h
    rw [List.cons_append, List.dropWhile_cons, if_pos h.1, dropWhile_sep hp a z h.2]
theorem all_takeWhile {p : UInt8 → Bool} : ∀ (l : List UInt8), (l.takeWhile p).all p = true
  | [] => rfl
  | c :: l => by
    rw [List.takeWhile_cons]
    split
    · rename_i h; rw [List.all_cons, h, all_takeWhile l]; rfl
    · rfl

/-- a token ahead of a byte that ends it is that token -/
theorem oneL_sep : ∀ (r : List UInt8) (kind : Nat) (text : List UInt8), oneL r = (kind, text, true) → ∀ (c : UInt8) (z : List UInt8), sep c → oneL (text ++ c :: z) = (kind, text, true) ∧ skip false (text ++ c :: z) = text ++ c :: z
  | [], kind, text, h, _, _, _ => by simp [oneL] at h
  | d :: r, kind, text, h, c, z, hc => by
    have hl : isAlnum c = false ∧ isDig c = false ∧ isLetter c.toNat = false := by
      rcases hc with rfl | rfl | rfl | rfl <;> decide
    by_cases h1 : d.toNat = 40
    · simp only [oneL, if_pos h1, Prod.mk.injEq] at h
      obtain ⟨rfl, rfl, _⟩ := h
      exact ⟨by simp [oneL], by simp [skip]⟩
    by_cases h2 : d.toNat = 41
    · simp only [oneL, if_neg h1, if_pos h2, Prod.mk.injEq] at h
      obtain ⟨rfl, rfl, _⟩ := h
      exact ⟨by simp [oneL], by simp [skip]⟩
    by_cases h3 : isLetter d.toNat = true
    · simp only [oneL, if_neg h1, if_neg h2, if_pos h3, Prod.mk.injEq] at h
      obtain ⟨rfl, rfl, h5⟩ := h
      have h4 := letter_not_paren h3
      refine ⟨?_, ?_⟩
      · simp only [List.cons_append, oneL, if_neg h1, if_neg h2, if_pos h3, takeWhile_sep hl.1 _ z (all_takeWhile r), h5]
      · simp only [List.cons_append, skip]
        rw [if_neg (by omega), if_neg (by omega)]
    by_cases h4 : isDigit d.toNat = true
    · simp only [oneL, if_neg h1, if_neg h2, if_neg h3, if_pos h4, Prod.mk.injEq] at h
      obtain ⟨rfl, rfl, h5⟩ := h
      have h6 : 48 ≤ d.toNat ∧ d.toNat ≤ 57 := by simpa [isDigit] using h4
      refine ⟨?_, ?_⟩
      · simp only [List.cons_append, oneL, if_neg h1, if_neg h2, if_neg h3, if_pos h4, takeWhile_sep hl.2.1 _ z (all_takeWhile r), dropWhile_sep hl.2.1 _ z (all_takeWhile r), List.head?_cons, Option.any_some, hl.2.2]
        rw [Bool.and_eq_true] at h5
        rw [h5.1]
        rfl
      · simp only [List.cons_append, skip]
        rw [if_neg (by omega), if_neg (by omega)]
    · simp [oneL, h1, h2, h3, h4] at h

/-- X, then whatever begins with a byte that ends a token: the tokens ts, and what that is -/
def Joined (X : List UInt8) (ts : List Tok) : Prop :=
  ∀ c z, sep c → lexE (X ++ c :: z) = (ts.map eraseT ++ (lexE (c :: z)).1, (lexE (c :: z)).2)

theorem Joined.nil : Joined [] [] := fun c z _ => by simp

theorem Joined.next {X : List UInt8} {ts : List Tok} {t : Tok} {g : List UInt8} (h : Joined X ts) (ht : ∃ r, oneL r = (t.kind, t.text, true))
    (hg : ∃ c z, g = c :: z ∧ sep c) (hs : ∀ x, skip false (g ++ x) = skip false x) : Joined (X ++ g ++ t.text) (ts ++ [t]) := by
  intro c z hc
  obtain ⟨c1, z1, rfl, hc1⟩ := hg
  obtain ⟨r, hr⟩ := ht
  have h1 := h c1 (z1 ++ t.text ++ c :: z) hc1
  have e1 : X ++ (c1 :: z1) ++ t.text ++ c :: z = X ++ c1 :: (z1 ++ t.text ++ c :: z) := by simp
  have e2 : c1 :: (z1 ++ t.text ++ c :: z) = (c1 :: z1) ++ (t.text ++ c :: z) := by simp
  rw [e1, h1, e2, lexE_skip _ _ (hs (t.text ++ c :: z))]
  obtain ⟨ho, hk⟩ := oneL_sep r t.kind t.text hr c z hc
  have hlen := oneL_len (t.text ++ c :: z) (by rw [ho])
  rw [ho] at hlen
  have h2 : lexE (t.text ++ c :: z) = ((t.kind, t.text) :: (lexE (c :: z)).1, (lexE (c :: z)).2) := by
    rw [lexE_eq _ ((t.text ++ c :: z).length + 1) 0 (by omega), hk]
    rw [lexR_good (by simp) (by omega) (by rw [ho]), ho]
    have hd : (t.text ++ c :: z).drop t.text.length = c :: z := by simp
    dsimp only
    rw [hd]
    have h3 : lexE (c :: z) = eraseX (lexS ((t.text ++ c :: z).length + 1) (c :: z) (0 + t.text.length)) := by
      rw [lexE_eq (c :: z) ((t.text ++ c :: z).length + 1) (0 + t.text.length + ((c :: z).length - (skip false (c :: z)).length)) (by simp; omega)]
      rfl
    rw [h3]
    rfl
  rw [h2]
  simp [eraseT]

theorem Joined.done {X : List UInt8} {ts : List Tok} (h : Joined X ts) : ∃ lm, lexL (X ++ [59, 101, 110, 100]) = (lm, none) ∧ lm.map eraseT = ts.map eraseT := by
  have h1 := h 59 [101, 110, 100] (.inr (.inr (.inr rfl)))
  have h2 : lexE [59, 101, 110, 100] = ([], false) := by decide +kernel
  rw [h2] at h1
  unfold lexE eraseX at h1
  obtain ⟨h3, h4⟩ := Prod.mk.inj h1
  refine ⟨(lexL (X ++ [59, 101, 110, 100])).1, Prod.ext rfl (by simpa using h4), by simpa using h3⟩

/-- the five gaps -/
def gaps : List (List UInt8) := [[32], [10], [9, 32], [59, 32, 97, 32, 40, 32, 98, 10], [32, 59, 10, 59, 41, 10]]
theorem gap_sep (k : Nat) (h : k < 5) : ∃ c z, gaps[k]'h = c :: z ∧ sep c := by
  match k, h with
  | 0, _ => exact ⟨_, _, rfl, .inl rfl⟩
  | 1, _ => exact ⟨_, _, rfl, .inr (.inr (.inl rfl))⟩
  | 2, _ => exact ⟨_, _, rfl, .inr (.inl rfl)⟩
  | 3, _ => exact ⟨_, _, rfl, .inr (.inr (.inr rfl))⟩
  | 4, _ => exact ⟨_, _, rfl, .inl rfl⟩
theorem gap_skip (k : Nat) (h : k < 5) (x : List UInt8) : skip false (gaps[k]'h ++ x) = skip false x := by
  match k, h with
  | 0, _ => simp [gaps, skip]
  | 1, _ => simp [gaps, skip]
  | 2, _ => simp [gaps, skip]
  | 3, _ => simp [gaps, skip]
  | 4, _ => simp [gaps, skip]

/-- each token of a text is lexed as itself -/
theorem lexR_each : ∀ (f : Nat) (r : List UInt8) (pos : Nat) (t : Tok), t ∈ (lexR f r pos).1 → ∃ x, oneL x = (t.kind, t.text, true)
  | 0, _, _, t, h => by simp [lexR] at h
  | f + 1, r, pos, t, h => by
    unfold lexR at h
    split at h
    · simp at h
    · split at h
      · rename_i ho
        simp only [List.mem_cons] at h
        rcases h with rfl | h
        · exact ⟨r, Prod.ext rfl (Prod.ext rfl ho)⟩
        · exact lexR_each f _ _ t h
      · simp at h
theorem lexL_each {l : List UInt8} {toks : List Tok} {x : Option Nat} (h : lexL l = (toks, x)) (t : Tok) (ht : t ∈ toks) : ∃ x, oneL x = (t.kind, t.text, true) := by
  have e : toks = (lexR (l.length + 1) (skip false l) (0 + (l.length - (skip false l).length))).1 := by
    have : lexL l = lexR (l.length + 1) (skip false l) (0 + (l.length - (skip false l).length)) := rfl
    rw [← this, h]
  rw [e] at ht
  exact lexR_each _ _ _ t ht
end Go.Proofs.YtjfdagacohkboaaDoor
