/- Laws of the lexer that other laws lean on. -/
import Derived.Test.YtfklmcmoackepaaDoorRefLex
namespace Go.Proofs.YtfklmcmoackepaaDoor
open Go.RowKit

theorem lex_ok (s : ByteArray) (w : World) (toks : List Tok) (hl : lexL s.data.toList = (toks, none)) (hs : s.size ≤ 1099511627776) (ht : Tab w) :
    Calls Tryd.prog 17 #[.string s] w fun e w' => ∃ v, e = .returned (.tuple #[v, .int .i64 0, .int .i64 0]) ∧ w'.ownsRow w.heap.size 51 3 v toks.length (toksCells toks) ∧ Below w.heap.size w w' := by
  refine (lex_any s w hs ht).mono ?_
  rintro e w' (⟨v, toks', h1, h2, h3, h4⟩ | ⟨toks', pos, h1, h2, h3⟩)
  · rw [hl] at h1
    obtain ⟨rfl, _⟩ := Prod.mk.inj h1
    exact ⟨v, h2, h3, h4⟩
  · rw [hl] at h1
    cases (Prod.mk.inj h1).2

theorem lex_bad (s : ByteArray) (w : World) (toks : List Tok) (pos : Nat) (hl : lexL s.data.toList = (toks, some pos)) (hs : s.size ≤ 1099511627776) (ht : Tab w) :
    Calls Tryd.prog 17 #[.string s] w fun e w' => e = .returned (.tuple #[.slice none 0 0, .int .i64 2, .int .i64 pos]) ∧ Below w.heap.size w w' := by
  refine (lex_any s w hs ht).mono ?_
  rintro e w' (⟨v, toks', h1, h2, h3, h4⟩ | ⟨toks', pos', h1, h2, h3⟩)
  · rw [hl] at h1
    cases (Prod.mk.inj h1).2
  · rw [hl] at h1
    obtain rfl := Option.some.inj (Prod.mk.inj h1).2
    exact ⟨h2, h3⟩

theorem rlex_ok (s : ByteArray) (w : World) (toks : List Tok) (hl : lexL s.data.toList = (toks, none)) (hs : s.size ≤ 1099511627776) :
    Calls Tryd.prog 20 #[.string s] w fun e w' => ∃ v, e = .returned (.tuple #[v, .int .i64 (-1)]) ∧ w'.ownsRow w.heap.size 72 3 v toks.length (toksCells toks) ∧ Below w.heap.size w w' := by
  refine (rlex_any s w hs).mono ?_
  rintro e w' ⟨v, toks', fault, h1, h2, h3, h4⟩
  rw [hl] at h1
  obtain ⟨rfl, rfl⟩ := Prod.mk.inj h1
  exact ⟨v, h2, h3, h4⟩

theorem rlex_bad (s : ByteArray) (w : World) (toks : List Tok) (pos : Nat) (hl : lexL s.data.toList = (toks, some pos)) (hs : s.size ≤ 1099511627776) :
    Calls Tryd.prog 20 #[.string s] w fun e w' => ∃ v, e = .returned (.tuple #[v, .int .i64 pos]) ∧ w'.ownsRow w.heap.size 72 3 v toks.length (toksCells toks) ∧ Below w.heap.size w w' := by
  refine (rlex_any s w hs).mono ?_
  rintro e w' ⟨v, toks', fault, h1, h2, h3, h4⟩
  rw [hl] at h1
  obtain ⟨rfl, rfl⟩ := Prod.mk.inj h1
  exact ⟨v, h2, h3, h4⟩

/-- so many tokens at the most -/
theorem lexR_length : ∀ (f : Nat) (r : List UInt8) (pos : Nat), (lexR f r pos).1.length ≤ r.length
  | 0, r, pos => by simp [lexR]
  | f + 1, r, pos => by
    unfold lexR
    split
    · simp
    · rename_i hr
      split
      · rename_i h
        have h1 := oneL_len r h
        have h2 := skip_le false (r.drop (oneL r).2.1.length)
        rw [List.length_drop] at h2
        have h3 := lexR_length f (skip false (r.drop (oneL r).2.1.length)) (pos + (oneL r).2.1.length + ((r.drop (oneL r).2.1.length).length - (skip false (r.drop (oneL r).2.1.length)).length))
        have h4 : 0 < r.length := List.length_pos_iff.2 hr
        simp only [List.length_cons]
        omega
      · simp

theorem lexL_length (l : List UInt8) : (lexL l).1.length ≤ l.length := by
  have h1 := lexR_length (l.length + 1) (skip false l) (0 + (l.length - (skip false l).length))
  have h2 := skip_le false l
  unfold lexL lexS
  omega

theorem letter_not_paren {c : UInt8} (h : isLetter c.toNat = true) : c.toNat ≠ 40 ∧ c.toNat ≠ 41 ∧ c.toNat ≠ 32 ∧ c.toNat ≠ 9 ∧ c.toNat ≠ 10 ∧ c.toNat ≠ 59 := by
  simp [isLetter] at h
  omega

/-- a line end behind a text: what is left behind blanks -/
theorem skip_line : ∀ (b : Bool) (r t : List UInt8), skip b (r ++ 10 :: t) = if skip b r = [] then skip false t else skip b r ++ 10 :: t
  | b, [], t => by cases b <;> simp [skip]
  | false, c :: r, t => by
    have h1 := skip_line false r t
    have h2 := skip_line true r t
    simp only [List.cons_append, skip]
    split
    · exact h1
    · split
      · exact h2
      · simp
  | true, c :: r, t => by
    have h1 := skip_line false r t
    have h2 := skip_line true r t
    simp only [List.cons_append, skip]
    split
    · exact h1
    · exact h2

theorem takeWhile_line {p : UInt8 → Bool} (hp : p 10 = false) : ∀ (r t : List UInt8), (r ++ 10 :: t).takeWhile p = r.takeWhile p
  | [], t => by simp [hp]
  | c :: r, t => by
    rw [List.cons_append, List.takeWhile_cons, List.takeWhile_cons, takeWhile_line hp r t]

theorem dropWhile_line {p : UInt8 → Bool} (hp : p 10 = false) : ∀ (r t : List UInt8), (r ++ 10 :: t).dropWhile p = r.dropWhile p ++ 10 :: t
  | [], t => by simp [hp]
  | c :: r, t => by
    rw [List.cons_append, List.dropWhile_cons, List.dropWhile_cons, dropWhile_line hp r t]
    split <;> rfl

theorem oneL_line (c : UInt8) (r t : List UInt8) : oneL (c :: r ++ 10 :: t) = oneL (c :: r) := by
  have h1 := takeWhile_line (p := isAlnum) (by decide) r t
  have h2 := takeWhile_line (p := isDig) (by decide) r t
  have h3 := dropWhile_line (p := isDig) (by decide) r t
  simp only [List.cons_append, oneL, h1, h2, h3]
  have h4 : ((r.dropWhile isDig ++ 10 :: t).head?.any fun d => isLetter d.toNat) = ((r.dropWhile isDig).head?.any fun d => isLetter d.toNat) := by
    cases r.dropWhile isDig with
    | nil => simp [isLetter]
    | cons d x => simp
  rw [h4]

def shiftT (d : Nat) (t : Tok) : Tok := ⟨t.kind, t.text, t.pos + d⟩

def shiftX (d : Nat) (x : List Tok × Option Nat) : List Tok × Option Nat := (x.1.map (shiftT d), x.2.map (· + d))

theorem lexR_shift : ∀ (f : Nat) (r : List UInt8) (pos d : Nat), lexR f r (pos + d) = shiftX d (lexR f r pos)
  | 0, _, _, _ => rfl
  | f + 1, r, pos, d => by
    unfold lexR
    split
    · rfl
    · split
      · dsimp only
        have := lexR_shift f (skip false (r.drop (oneL r).2.1.length)) (pos + (oneL r).2.1.length + ((r.drop (oneL r).2.1.length).length - (skip false (r.drop (oneL r).2.1.length)).length)) d
        rw [show pos + d + (oneL r).2.1.length + ((r.drop (oneL r).2.1.length).length - (skip false (r.drop (oneL r).2.1.length)).length) = pos + (oneL r).2.1.length + ((r.drop (oneL r).2.1.length).length - (skip false (r.drop (oneL r).2.1.length)).length) + d by omega, this]
        rfl
      · rfl

theorem lexS_shift (f : Nat) (r : List UInt8) (pos d : Nat) : lexS f r (pos + d) = shiftX d (lexS f r pos) := by
  unfold lexS
  rw [← lexR_shift]
  congr 1
  omega

theorem lexS_fuel (f g : Nat) (r : List UInt8) (pos : Nat) (h1 : r.length < f) (h2 : r.length < g) : lexS f r pos = lexS g r pos := by
  have := skip_le false r
  unfold lexS
  exact lexR_fuel _ _ _ _ (by omega) (by omega)

/-- x, and if it has no fault, y behind it -/
def thenX (x y : List Tok × Option Nat) : List Tok × Option Nat := match x.2 with | some p => (x.1, some p) | none => (x.1 ++ y.1, y.2)

theorem lexS_line : ∀ (f : Nat) (r t : List UInt8) (pos : Nat), r.length + t.length + 1 < f → lexS f (r ++ 10 :: t) pos = thenX (lexS f r pos) (lexS f t (pos + r.length + 1))
  | 0, _, _, _, h => by omega
  | f + 1, r, t, pos, h => by
    have hs := skip_line false r t
    have hr := skip_le false r
    by_cases h0 : skip false r = []
    · rw [if_pos h0] at hs
      have ht := skip_le false t
      have e1 : lexS (f + 1) r pos = ([], none) := by unfold lexS; rw [h0, lexR_nil]
      rw [e1]
      show _ = (_, _)
      unfold lexS
      rw [hs]
      have e2 : pos + ((r ++ 10 :: t).length - (skip false t).length) = pos + r.length + 1 + (t.length - (skip false t).length) := by
        rw [List.length_append, List.length_cons]; omega
      rw [e2]
      simp
    · rw [if_neg h0] at hs
      have hx : ∀ (x : List UInt8), skip false r = x → lexS (f + 1) (r ++ 10 :: t) pos = thenX (lexS (f + 1) r pos) (lexS (f + 1) t (pos + r.length + 1)) := by
        intro x hx
        cases x with
        | nil => exact absurd hx h0
        | cons c r1 =>
          rw [hx] at hr
          have hp1 : lexS (f + 1) r pos = lexR (f + 1) (c :: r1) (pos + (r.length - (c :: r1).length)) := by unfold lexS; rw [hx]
          have hp2 : lexS (f + 1) (r ++ 10 :: t) pos = lexR (f + 1) (c :: r1 ++ 10 :: t) (pos + (r.length - (c :: r1).length)) := by
            unfold lexS
            rw [hs, hx]
            congr 1
            simp only [List.length_append, List.length_cons] at *
            omega
          rw [hp1, hp2]
          have ho := oneL_line c r1 t
          have hq0 : pos + r.length + 1 = (pos + (r.length - (c :: r1).length)) + (c :: r1).length + 1 := by omega
          rw [hq0]
          generalize pos + (r.length - (c :: r1).length) = q
          have hl2 : (c :: r1 ++ 10 :: t).length < f + 1 := by simp only [List.length_append, List.length_cons] at *; omega
          have hl1 : (c :: r1).length < f + 1 := by simp only [List.length_append, List.length_cons] at *; omega
          have g1 := oneL_le (c :: r1) (by simp)
          have g2 := oneL_len (c :: r1)
          have b1 := lexR_bad (f := f + 1) (r := c :: r1) (pos := q) (by simp) hl1
          have b2 := lexR_bad (f := f + 1) (r := c :: r1 ++ 10 :: t) (pos := q) (by simp) hl2
          have k1 := lexR_good (f := f + 1) (r := c :: r1) (pos := q) (by simp) hl1
          have k2 := lexR_good (f := f + 1) (r := c :: r1 ++ 10 :: t) (pos := q) (by simp) hl2
          rw [ho] at b2 k2
          cases hone : oneL (c :: r1) with
          | mk kind r2 =>
          obtain ⟨text, ok⟩ := r2
          rw [hone] at g1 g2 b1 b2 k1 k2
          dsimp only at g1 g2 b1 b2 k1 k2
          cases ok
          · rw [b1 rfl, b2 rfl]
            rfl
          · have g2 := g2 rfl
            rw [k1 rfl, k2 rfl]
            have hd : (c :: r1 ++ 10 :: t).drop text.length = (c :: r1).drop text.length ++ 10 :: t := List.drop_append_of_le_length g1
            rw [hd]
            have hlen : ((c :: r1).drop text.length ++ 10 :: t).length < f := by
              simp only [List.length_append, List.length_drop, List.length_cons] at *; omega
            have ih := lexS_line f ((c :: r1).drop text.length) t (q + text.length) (by simp only [List.length_append, List.length_drop, List.length_cons] at *; omega)
            rw [lexS_fuel (f + 1) f _ _ (by omega) hlen, ih]
            have e3 : q + text.length + ((c :: r1).drop text.length).length + 1 = q + (c :: r1).length + 1 := by
              rw [List.length_drop]; omega
            rw [e3]
            have hd1 : ((c :: r1).drop text.length).length < f := by simp only [List.length_append, List.length_drop, List.length_cons] at *; omega
            rw [lexS_fuel (f + 1) f ((c :: r1).drop text.length) _ (by omega) hd1]
            have hd2 : t.length < f := by simp only [List.length_append, List.length_cons] at *; omega
            rw [lexS_fuel (f + 1) f t _ (by omega) hd2]
            cases lexS f ((c :: r1).drop text.length) (q + text.length) with
            | mk x1 x2 => cases x2 <;> rfl
      exact hx _ rfl

/-- the tokens of two texts that a line end joins -/
theorem lexL_line (a b : List UInt8) : lexL (a ++ 10 :: b) = thenX (lexL a) (shiftX (a.length + 1) (lexL b)) := by
  have h := lexS_line ((a ++ 10 :: b).length + 1) a b 0 (by simp)
  unfold lexL
  rw [h]
  have h1 := lexS_shift ((a ++ 10 :: b).length + 1) b 0 (a.length + 1)
  rw [show 0 + a.length + 1 = 0 + (a.length + 1) by omega, h1]
  rw [lexS_fuel ((a ++ 10 :: b).length + 1) (a.length + 1) a 0 (by simp; omega) (by omega)]
  rw [lexS_fuel ((a ++ 10 :: b).length + 1) (b.length + 1) b 0 (by simp; omega) (by omega)]

/-- the slice value of a row -/
theorem Has.slice {w : World} {size : Nat} {v : Value} {n : Nat} {xs : List Value} (h : Has w size v n xs) : ∃ a c, v = .slice a n c := by
  rcases h.2 with ⟨rfl, h0⟩ | ⟨b, o, c, rfl, _⟩
  · exact ⟨none, 0, by rw [h0]⟩
  · exact ⟨_, _, rfl⟩

theorem Has.open {w : World} {size : Nat} {a : Option Addr} {n c : Nat} {xs : List Value} (h : Has w size (.slice a n c) n xs) (hn : 0 < n) :
    ∃ b o, a = some ⟨b, o, none⟩ ∧ b < w.heap.size ∧ ∀ j, j < n * size → w.cell? ⟨b, o + j, none⟩ = xs[j]? := by
  rcases h.2 with ⟨_, h0⟩ | ⟨b, o, c', hv, _, hb, hc⟩
  · omega
  · obtain ⟨rfl, _, rfl⟩ := Value.slice.inj hv
    exact ⟨b, o, rfl, hb, hc⟩

theorem lexR_fault : ∀ (f : Nat) (r : List UInt8) (pos p : Nat), (lexR f r pos).2 = some p → p ≤ pos + r.length
  | 0, r, pos, p, h => by simp [lexR] at h
  | f + 1, r, pos, p, h => by
    unfold lexR at h
    by_cases hr : r = []
    · rw [if_pos hr] at h; cases h
    · rw [if_neg hr] at h
      by_cases ho : (oneL r).2.2 = true
      · rw [if_pos ho] at h
        have h1 := oneL_le r hr
        have h2 := skip_le false (r.drop (oneL r).2.1.length)
        have h3 := lexR_fault f _ _ p h
        rw [List.length_drop] at h2 h3
        omega
      · rw [if_neg ho] at h
        obtain rfl := Option.some.inj h
        omega

theorem lexL_fault {l : List UInt8} {toks : List Tok} {p : Nat} (h : lexL l = (toks, some p)) : p ≤ l.length := by
  have h2 := skip_le false l
  have h3 := lexR_fault (l.length + 1) (skip false l) (0 + (l.length - (skip false l).length)) p (by
    have : lexL l = lexR (l.length + 1) (skip false l) (0 + (l.length - (skip false l).length)) := rfl
    rw [← this, h])
  omega

/-- blanks and remarks alone? (note: inside a remark) -/
def nothingS : Bool → List UInt8 → Bool
  | _, [] => true
  | note, c :: r => if c.toNat = 10 then nothingS false r else if c.toNat = 59 then nothingS true r else if note = false ∧ c.toNat ≠ 32 ∧ c.toNat ≠ 9 then false else nothingS note r

theorem nothing_skip : ∀ (b : Bool) (l : List UInt8), nothingS b (l.take (l.length - (skip b l).length)) = true
  | b, [] => by cases b <;> rfl
  | false, c :: r => by
    have h1 := skip_le false r
    have h2 := skip_le true r
    simp only [skip]
    by_cases hb : c.toNat = 32 ∨ c.toNat = 9 ∨ c.toNat = 10
    · rw [if_pos hb, show (c :: r).length - (skip false r).length = (r.length - (skip false r).length) + 1 by simp; omega, List.take_succ_cons]
      unfold nothingS
      by_cases h10 : c.toNat = 10
      · rw [if_pos h10]; exact nothing_skip false r
      · rw [if_neg h10, if_neg (by omega), if_neg (by omega)]; exact nothing_skip false r
    · rw [if_neg hb]
      by_cases h59 : c.toNat = 59
      · rw [if_pos h59, show (c :: r).length - (skip true r).length = (r.length - (skip true r).length) + 1 by simp; omega, List.take_succ_cons]
        unfold nothingS
        rw [if_neg (by omega), if_pos h59]; exact nothing_skip true r
      · rw [if_neg h59]; simp [nothingS]
  | true, c :: r => by
    have h1 := skip_le false r
    have h2 := skip_le true r
    simp only [skip]
    by_cases h10 : c.toNat = 10
    · rw [if_pos h10, show (c :: r).length - (skip false r).length = (r.length - (skip false r).length) + 1 by simp; omega, List.take_succ_cons]
      unfold nothingS
      rw [if_pos h10]; exact nothing_skip false r
    · rw [if_neg h10, show (c :: r).length - (skip true r).length = (r.length - (skip true r).length) + 1 by simp; omega, List.take_succ_cons]
      unfold nothingS
      rw [if_neg h10]
      by_cases h59 : c.toNat = 59
      · rw [if_pos h59]; exact nothing_skip true r
      · rw [if_neg h59, if_neg (by simp)]; exact nothing_skip true r

theorem oneL_take : ∀ (r : List UInt8), (oneL r).2.2 = true → (oneL r).2.1 = r.take (oneL r).2.1.length
  | [], h => by simp [oneL] at h
  | c :: r, h => by
    simp only [oneL] at *
    by_cases h1 : c.toNat = 40
    · have : c = 40 := UInt8.toNat_inj.1 h1
      simp [h1]; exact this.symm
    by_cases h2 : c.toNat = 41
    · have : c = 41 := UInt8.toNat_inj.1 h2
      simp [h2]; exact this.symm
    by_cases h3 : isLetter c.toNat = true
    · simp only [if_neg h1, if_neg h2, if_pos h3, List.length_cons, List.take_succ_cons, take_takeWhile]
    by_cases h4 : isDigit c.toNat = true
    · simp only [if_neg h1, if_neg h2, if_neg h3, if_pos h4, List.length_cons, List.take_succ_cons, take_takeWhile]
    · simp [h1, h2, h3, h4] at h

/-- tokens one behind the other, from a place on -/
def Spans (l : List UInt8) : Nat → List Tok → Prop
  | pos, [] => pos ≤ l.length ∧ blankAt l pos = l.length
  | pos, t :: ts => pos ≤ l.length ∧ t.pos = blankAt l pos ∧ t.pos + t.text.length ≤ l.length ∧ t.text = (l.drop t.pos).take t.text.length ∧ 0 < t.text.length ∧ Spans l (t.pos + t.text.length) ts

theorem spans_of : ∀ (f : Nat) (l : List UInt8) (pos : Nat) (toks : List Tok), pos ≤ l.length → l.length < f + pos → lexS f (l.drop pos) pos = (toks, none) → Spans l pos toks
  | 0, _, _, _, h, hf, _ => by omega
  | f + 1, l, pos, toks, h, hf, hx => by
    have hb := blankAt_le l pos h
    rw [lexS_at _ _ _ h] at hx
    by_cases hr : l.drop (blankAt l pos) = []
    · rw [hr, lexR_nil] at hx
      obtain ⟨rfl, _⟩ := Prod.mk.inj hx
      refine ⟨h, ?_⟩
      have := congrArg List.length hr
      rw [List.length_drop] at this
      simp at this
      omega
    · have h2 := oneL_le _ hr
      have h1 := oneL_len (l.drop (blankAt l pos))
      have h5 := oneL_take (l.drop (blankAt l pos))
      have h6 := lexR_bad (f := f + 1) (pos := blankAt l pos) hr (by rw [List.length_drop]; omega)
      have h7 := lexR_good (f := f + 1) (pos := blankAt l pos) hr (by rw [List.length_drop]; omega)
      rw [List.length_drop] at h2
      cases hq : oneL (l.drop (blankAt l pos)) with
      | mk kind r2 =>
      obtain ⟨text, ok⟩ := r2
      rw [hq] at h1 h2 h5 h6 h7
      dsimp only at h1 h2 h5 h6 h7
      cases ok
      · rw [h6 rfl] at hx
        cases (Prod.mk.inj hx).2
      · rw [h7 rfl, List.drop_drop] at hx
        have h1 := h1 rfl
        obtain ⟨rfl, h4⟩ := Prod.mk.inj hx
        refine ⟨h, rfl, by dsimp only; omega, h5 rfl, h1, ?_⟩
        -- less fuel serves
        refine spans_of f l _ _ (by dsimp only; omega) (by dsimp only; omega) ?_
        have hfu : ∀ p, p ≤ l.length → blankAt l pos < p → lexS (f + 1) (l.drop p) p = lexS f (l.drop p) p := by
          intro p hp hlt
          rw [lexS_at _ _ _ hp, lexS_at _ _ _ hp]
          have := blankAt_le l p hp
          exact lexR_fuel _ _ _ _ (by rw [List.length_drop]; omega) (by rw [List.length_drop]; omega)
        dsimp only
        rw [← hfu (blankAt l pos + text.length) (by omega) (by omega)]
        exact Prod.ext rfl h4

theorem spans_lexL (l : List UInt8) (toks : List Tok) (h : lexL l = (toks, none)) : Spans l 0 toks :=
  spans_of (l.length + 1) l 0 toks (Nat.zero_le _) (by omega) (by rw [List.drop_zero]; exact h)

/-- kinds and texts alone -/
def eraseT (t : Tok) : Nat × List UInt8 := (t.kind, t.text)

def eraseX (x : List Tok × Option Nat) : List (Nat × List UInt8) × Bool := (x.1.map eraseT, x.2.isSome)

theorem eraseX_shift (d : Nat) (x : List Tok × Option Nat) : eraseX (shiftX d x) = eraseX x := by
  unfold eraseX shiftX
  simp [Function.comp_def, shiftT, eraseT]

theorem erase_pos (f : Nat) (r : List UInt8) (p q : Nat) : eraseX (lexR f r p) = eraseX (lexR f r q) := by
  have h1 := lexR_shift f r 0 p
  have h2 := lexR_shift f r 0 q
  rw [Nat.zero_add] at h1 h2
  rw [h1, h2, eraseX_shift, eraseX_shift]

/-- what is lexed, places aside -/
def lexE (l : List UInt8) : List (Nat × List UInt8) × Bool := eraseX (lexL l)

theorem lexE_eq (l : List UInt8) (f p : Nat) (h : l.length < f) : lexE l = eraseX (lexR f (skip false l) p) := by
  have := skip_le false l
  unfold lexE lexL lexS
  rw [lexR_fuel (l.length + 1) f _ _ (by omega) (by omega)]
  exact erase_pos _ _ _ _

theorem lexE_skip (a b : List UInt8) (h : skip false a = skip false b) : lexE a = lexE b := by
  rw [lexE_eq a (a.length + b.length + 1) 0 (by omega), lexE_eq b (a.length + b.length + 1) 0 (by omega), h]

/-- a byte that ends a token -/
def sep (c : UInt8) : Prop := c = 32 ∨ c = 9 ∨ c = 10 ∨ c = 59

theorem takeWhile_sep {p : UInt8 → Bool} {c : UInt8} (hp : p c = false) : ∀ (a z : List UInt8), a.all p = true → (a ++ c :: z).takeWhile p = a
  | [], z, _ => by simp [hp]
  | d :: a, z, h => by
    rw [List.all_cons, Bool.and_eq_true] at h
    rw [List.cons_append, List.takeWhile_cons, if_pos h.1, takeWhile_sep hp a z h.2]

theorem dropWhile_sep {p : UInt8 → Bool} {c : UInt8} (hp : p c = false) : ∀ (a z : List UInt8), a.all p = true → (a ++ c :: z).dropWhile p = c :: z
  | [], z, _ => by simp [hp]
  | d :: a, z, h => by
    rw [List.all_cons, Bool.and_eq_true] at h
    rw [List.cons_append, List.dropWhile_cons, if_pos h.1, dropWhile_sep hp a z h.2]

theorem all_takeWhile {p : UInt8 → Bool} : ∀ (l : List UInt8), (l.takeWhile p).all p = true
  | [] => rfl
  | c :: l => by
    rw [List.takeWhile_cons]
    split
    · rename_i h; rw [List.all_cons, h, all_takeWhile l]; rfl
    · rfl

/-- a token ahead of a byte that ends it is that token -/
theorem oneL_sep : ∀ (r : List UInt8) (kind : Nat) (text : List UInt8), oneL r = (kind, text, true) → ∀ (c : UInt8) (z : List UInt8), sep c → oneL (text ++ c :: z) = (kind, text, true) ∧ skip false (text ++ c :: z) = text ++ c :: z
  | [], kind, text, h, _, _, _ => by simp [oneL] at h
  | d :: r, kind, text, h, c, z, hc => by
    have hl : isAlnum c = false ∧ isDig c = false ∧ isLetter c.toNat = false := by
      rcases hc with rfl | rfl | rfl | rfl <;> decide
    by_cases h1 : d.toNat = 40
    · simp only [oneL, if_pos h1, Prod.mk.injEq] at h
      obtain ⟨rfl, rfl, _⟩ := h
      exact ⟨by simp [oneL], by simp [skip]⟩
    by_cases h2 : d.toNat = 41
    · simp only [oneL, if_neg h1, if_pos h2, Prod.mk.injEq] at h
      obtain ⟨rfl, rfl, _⟩ := h
      exact ⟨by simp [oneL], by simp [skip]⟩
    by_cases h3 : isLetter d.toNat = true
    · simp only [oneL, if_neg h1, if_neg h2, if_pos h3, Prod.mk.injEq] at h
      obtain ⟨rfl, rfl, h5⟩ := h
      have h4 := letter_not_paren h3
      refine ⟨?_, ?_⟩
      · simp only [List.cons_append, oneL, if_neg h1, if_neg h2, if_pos h3, takeWhile_sep hl.1 _ z (all_takeWhile r), h5]
      · simp only [List.cons_append, skip]
        rw [if_neg (by omega), if_neg (by omega)]
    by_cases h4 : isDigit d.toNat = true
    · simp only [oneL, if_neg h1, if_neg h2, if_neg h3, if_pos h4, Prod.mk.injEq] at h
      obtain ⟨rfl, rfl, h5⟩ := h
      have h6 : 48 ≤ d.toNat ∧ d.toNat ≤ 57 := by simpa [isDigit] using h4
      refine ⟨?_, ?_⟩
      · simp only [List.cons_append, oneL, if_neg h1, if_neg h2, if_neg h3, if_pos h4, takeWhile_sep hl.2.1 _ z (all_takeWhile r), dropWhile_sep hl.2.1 _ z (all_takeWhile r), List.head?_cons, Option.any_some, hl.2.2]
        rw [Bool.and_eq_true] at h5
        rw [h5.1]
        rfl
      · simp only [List.cons_append, skip]
        rw [if_neg (by omega), if_neg (by omega)]
    · simp [oneL, h1, h2, h3, h4] at h

/-- X, then whatever begins with a byte that ends a token: the tokens ts, and what that is -/
def Joined (X : List UInt8) (ts : List Tok) : Prop :=
  ∀ c z, sep c → lexE (X ++ c :: z) = (ts.map eraseT ++ (lexE (c :: z)).1, (lexE (c :: z)).2)

theorem Joined.nil : Joined [] [] := fun c z _ => by simp

theorem Joined.next {X : List UInt8} {ts : List Tok} {t : Tok} {g : List UInt8} (h : Joined X ts) (ht : ∃ r, oneL r = (t.kind, t.text, true))
    (hg : ∃ c z, g = c :: z ∧ sep c) (hs : ∀ x, skip false (g ++ x) = skip false x) : Joined (X ++ g ++ t.text) (ts ++ [t]) := by
  intro c z hc
  obtain ⟨c1, z1, rfl, hc1⟩ := hg
  obtain ⟨r, hr⟩ := ht
  have h1 := h c1 (z1 ++ t.text ++ c :: z) hc1
  have e1 : X ++ (c1 :: z1) ++ t.text ++ c :: z = X ++ c1 :: (z1 ++ t.text ++ c :: z) := by simp
  have e2 : c1 :: (z1 ++ t.text ++ c :: z) = (c1 :: z1) ++ (t.text ++ c :: z) := by simp
  rw [e1, h1, e2, lexE_skip _ _ (hs (t.text ++ c :: z))]
  obtain ⟨ho, hk⟩ := oneL_sep r t.kind t.text hr c z hc
  have hlen := oneL_len (t.text ++ c :: z) (by rw [ho])
  rw [ho] at hlen
  have h2 : lexE (t.text ++ c :: z) = ((t.kind, t.text) :: (lexE (c :: z)).1, (lexE (c :: z)).2) := by
    rw [lexE_eq _ ((t.text ++ c :: z).length + 1) 0 (by omega), hk]
    rw [lexR_good (by simp) (by omega) (by rw [ho]), ho]
    have hd : (t.text ++ c :: z).drop t.text.length = c :: z := by simp
    dsimp only
    rw [hd]
    have h3 : lexE (c :: z) = eraseX (lexS ((t.text ++ c :: z).length + 1) (c :: z) (0 + t.text.length)) := by
      rw [lexE_eq (c :: z) ((t.text ++ c :: z).length + 1) (0 + t.text.length + ((c :: z).length - (skip false (c :: z)).length)) (by simp; omega)]
      rfl
    rw [h3]
    rfl
  rw [h2]
  simp [eraseT]

theorem Joined.done {X : List UInt8} {ts : List Tok} (h : Joined X ts) : ∃ lm, lexL (X ++ [59, 101, 110, 100]) = (lm, none) ∧ lm.map eraseT = ts.map eraseT := by
  have h1 := h 59 [101, 110, 100] (.inr (.inr (.inr rfl)))
  have h2 : lexE [59, 101, 110, 100] = ([], false) := by decide +kernel
  rw [h2] at h1
  unfold lexE eraseX at h1
  obtain ⟨h3, h4⟩ := Prod.mk.inj h1
  refine ⟨(lexL (X ++ [59, 101, 110, 100])).1, Prod.ext rfl (by simpa using h4), by simpa using h3⟩

/-- the five gaps -/
def gaps : List (List UInt8) := [[32], [10], [9, 32], [59, 32, 97, 32, 40, 32, 98, 10], [32, 59, 10, 59, 41, 10]]

theorem gap_sep (k : Nat) (h : k < 5) : ∃ c z, gaps[k]'h = c :: z ∧ sep c := by
  match k, h with
  | 0, _ => exact ⟨_, _, rfl, .inl rfl⟩
  | 1, _ => exact ⟨_, _, rfl, .inr (.inr (.inl rfl))⟩
  | 2, _ => exact ⟨_, _, rfl, .inr (.inl rfl)⟩
  | 3, _ => exact ⟨_, _, rfl, .inr (.inr (.inr rfl))⟩
  | 4, _ => exact ⟨_, _, rfl, .inl rfl⟩

theorem gap_skip (k : Nat) (h : k < 5) (x : List UInt8) : skip false (gaps[k]'h ++ x) = skip false x := by
  match k, h with
  | 0, _ => simp [gaps, skip]
  | 1, _ => simp [gaps, skip]
  | 2, _ => simp [gaps, skip]
  | 3, _ => simp [gaps, skip]
  | 4, _ => simp [gaps, skip]

/-- each token of a text is lexed as itself -/
theorem lexR_each : ∀ (f : Nat) (r : List UInt8) (pos : Nat) (t : Tok), t ∈ (lexR f r pos).1 → ∃ x, oneL x = (t.kind, t.text, true)
  | 0, _, _, t, h => by simp [lexR] at h
  | f + 1, r, pos, t, h => by
    unfold lexR at h
    split at h
    · simp at h
    · split at h
      · rename_i ho
        simp only [List.mem_cons] at h
        rcases h with rfl | h
        · exact ⟨r, Prod.ext rfl (Prod.ext rfl ho)⟩
        · exact lexR_each f _ _ t h
      · simp at h

theorem lexL_each {l : List UInt8} {toks : List Tok} {x : Option Nat} (h : lexL l = (toks, x)) (t : Tok) (ht : t ∈ toks) : ∃ x, oneL x = (t.kind, t.text, true) := by
  have e : toks = (lexR (l.length + 1) (skip false l) (0 + (l.length - (skip false l).length))).1 := by
    have : lexL l = lexR (l.length + 1) (skip false l) (0 + (l.length - (skip false l).length)) := rfl
    rw [← this, h]
  rw [e] at ht
  exact lexR_each _ _ _ t ht

theorem spans_pos (l : List UInt8) : ∀ (pos : Nat) (toks : List Tok), Spans l pos toks → ∀ (k : Nat) (h : k < toks.length), toks[k].pos + toks[k].text.length ≤ l.length
  | _, [], _, k, h => by simp at h
  | pos, t :: ts, hs, 0, _ => hs.2.2.1
  | pos, t :: ts, hs, k + 1, h => spans_pos l _ ts hs.2.2.2.2.2 k (by simpa using h)

end Go.Proofs.YtfklmcmoackepaaDoor
