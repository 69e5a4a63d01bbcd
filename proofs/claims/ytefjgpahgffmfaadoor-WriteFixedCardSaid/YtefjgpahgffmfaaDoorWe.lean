/- What was written, lexed: on lists. -/
import Derived.Test.YtefjgpahgffmfaaDoorAg
namespace Go.Proofs.YtefjgpahgffmfaaDoor
open Go.RowKit

def tOpen : Nat × List UInt8 := (1, [40])
def tClose : Nat × List UInt8 := (2, [41])
theorem lexE_tok {text z : List UInt8} {kind : Nat} (ho : oneL (text ++ z) = (kind, text, true)) (hk : skip false (text ++ z) = text ++ z) : lexE (text ++ z) = ((kind, text) :: (lexE z).1, (lexE z).2) := by
  have hlen := oneL_len (text ++ z) (by rw [ho])
  rw [ho] at hlen
  have hne : text ++ z ≠ [] := by intro h; rw [List.append_eq_nil_iff] at h; rw [h.1] at hlen; simp at hlen
  rw [lexE_eq _ ((text ++ z).length + 1) 0 (by omega), hk]
  rw [lexR_good hne (by omega) (by rw [ho]), ho]
  have hd : (text ++ z).drop text.length = z := by simp
  dsimp only
  rw [hd]
  have h3 : lexE z = eraseX (lexS ((text ++ z).length + 1) z (0 + text.length)) := by
    rw [lexE_eq z ((text ++ z).length + 1) (0 + text.length + (z.length - (skip false z).length)) (by simp; omega)]
    rfl
  rw [h3]
  rfl
theorem lexE_open (z : List UInt8) : lexE (40 :: z) = (tOpen :: (lexE z).1, (lexE z).2) := by
  have h1 : oneL ([40] ++ z) = (1, [40], true) := by simp [oneL]
  have h2 : skip false ([40] ++ z) = [40] ++ z := by simp [skip]
  exact lexE_tok h1 h2
theorem lexE_close (z : List UInt8) : lexE (41 :: z) = (tClose :: (lexE z).1, (lexE z).2) := by
  have h1 : oneL ([41] ++ z) = (2, [41], true) := by simp [oneL]
  have h2 : skip false ([41] ++ z) = [41] ++ z := by simp [skip]
  exact lexE_tok h1 h2
theorem lexE_blank (c : UInt8) (z : List UInt8) (h : c = 32 ∨ c = 10) : lexE (c :: z) = lexE z := by
  refine lexE_skip _ _ ?_
  rcases h with rfl | rfl <;> simp [skip]
theorem lexE_end (a : List UInt8) : lexE (a ++ [10]) = lexE a := by
  unfold lexE
  rw [lexL_line a []]
  have h1 : lexL [] = ([], none) := by decide +kernel
  rw [h1]
  rcases lexL a with ⟨l, o⟩
  cases o <;> simp [thenX, shiftX, eraseX]

/-- what ends a word or a number in what is written -/
def ends (c : UInt8) : Prop := c = 32 ∨ c = 41 ∨ c = 10
theorem lexE_word {a : List UInt8} (d c : UInt8) (z : List UInt8) (hd : isLetter d.toNat = true) (ha : a.all isAlnum = true) (hl : a.length + 1 ≤ 20) (hc : ends c) :
    lexE (d :: a ++ c :: z) = ((3, d :: a) :: (lexE (c :: z)).1, (lexE (c :: z)).2) := by
  have hp := letter_not_paren hd
  have hc2 : isAlnum c = false := by rcases hc with rfl | rfl | rfl <;> decide
  refine lexE_tok ?_ ?_
  · simp only [List.cons_append, oneL]
    rw [if_neg (by omega), if_neg (by omega), if_pos hd, takeWhile_sep hc2 a z ha]
    simp [hl]
  · simp only [List.cons_append, skip]
    rw [if_neg (by omega), if_neg (by omega)]
theorem lexE_num {i : Int} (h0 : 0 ≤ i) (h1 : i ≤ 1000000) (c : UInt8) (z : List UInt8) (hc : ends c) : lexE (Lib.itoa i ++ c :: z) = ((4, Lib.itoa i) :: (lexE (c :: z)).1, (lexE (c :: z)).2) := by
  have hg := getN_itoa i
  rw [if_neg (by omega), getN_eq_getR] at hg
  obtain ⟨u, rfl⟩ := Int.eq_ofNat_of_zero_le h0
  rw [Lib.itoa_nonneg] at *
  have hd := (digs_dec u).1
  have hpos : 0 < (Lib.decDigits u).length := by rw [Lib.decDigits_length]; exact Lib.nDigits_pos u
  revert hd hpos hg
  generalize Lib.decDigits u = w
  intro hg hd hpos
  cases w with
  | nil => simp at hpos
  | cons d a =>
    simp only [digs, List.all_cons, Bool.and_eq_true] at hd
    have h6 : 48 ≤ d.toNat ∧ d.toNat ≤ 57 := by simpa [isDigit] using hd.1
    have h7 : isLetter d.toNat = false := by simp [isLetter]; omega
    rcases hc with rfl | rfl | rfl
    · have hpc : isDig 32 = false := by decide
      refine lexE_tok ?_ ?_
      · simp only [List.cons_append, oneL]
        rw [if_neg (by omega), if_neg (by omega), if_neg (by simp [h7]), if_pos hd.1, takeWhile_sep hpc a z hd.2, dropWhile_sep hpc a z hd.2, hg]
        simp
        decide
      · simp only [List.cons_append, skip]
        rw [if_neg (by omega), if_neg (by omega)]
    · have hpc : isDig 41 = false := by decide
      refine lexE_tok ?_ ?_
      · simp only [List.cons_append, oneL]
        rw [if_neg (by omega), if_neg (by omega), if_neg (by simp [h7]), if_pos hd.1, takeWhile_sep hpc a z hd.2, dropWhile_sep hpc a z hd.2, hg]
        simp
        decide
      · simp only [List.cons_append, skip]
        rw [if_neg (by omega), if_neg (by omega)]
    · have hpc : isDig 10 = false := by decide
      refine lexE_tok ?_ ?_
      · simp only [List.cons_append, oneL]
        rw [if_neg (by omega), if_neg (by omega), if_neg (by simp [h7]), if_pos hd.1, takeWhile_sep hpc a z hd.2, dropWhile_sep hpc a z hd.2, hg]
        simp
        decide
      · simp only [List.cons_append, skip]
        rw [if_neg (by omega), if_neg (by omega)]
theorem lexE_good {w : List UInt8} (h : w.length ≤ 20 ∧ w.all isAlnum = true ∧ w.head?.any (fun c => isLetter c.toNat) = true) (c : UInt8) (z : List UInt8) (hc : ends c) : lexE (w ++ c :: z) = ((3, w) :: (lexE (c :: z)).1, (lexE (c :: z)).2) := by
  obtain ⟨a1, a2, a3⟩ := h
  cases w with
  | nil => simp at a3
  | cons d a =>
    rw [List.all_cons, Bool.and_eq_true] at a2
    simp only [List.length_cons] at a1
    exact lexE_word d c z (by simpa using a3) a2.2 (by omega) hc
theorem mark_good : ∀ k : Nat, k < 23 → k ≠ 1 → (markWords.getD k []).length ≤ 20 ∧ (markWords.getD k []).all isAlnum = true ∧ (markWords.getD k []).head?.any (fun c => isLetter c.toNat) = true := by decide +kernel
theorem sym_good : ∀ k : Nat, k < 21 → (symWords.getD k []).length ≤ 20 ∧ (symWords.getD k []).all isAlnum = true ∧ (symWords.getD k []).head?.any (fun c => isLetter c.toNat) = true := by decide +kernel
theorem itoa_good {n : Int} (h0 : 0 ≤ n) (h1 : n ≤ 2147483647) : (Lib.itoa n).all isAlnum = true ∧ (Lib.itoa n).length ≤ 19 := by
  obtain ⟨u, rfl⟩ := Int.eq_ofNat_of_zero_le h0
  rw [Lib.itoa_nonneg]
  refine ⟨?_, ?_⟩
  · have hd := (digs_dec u).1
    simp only [digs, List.all_eq_true] at hd ⊢
    intro c hc
    have := hd c hc
    simp only [isAlnum, this, Bool.or_true]
  · rw [Lib.decDigits_length]; exact nDigits_le 18 u (Nat.lt_of_le_of_lt (show u ≤ 2147483647 by omega) (by decide))
theorem lexE_name {n : Int} (h0 : 0 ≤ n) (h1 : n ≤ 2147483647) (c : UInt8) (z : List UInt8) (hc : ends c) : lexE (nameL n ++ c :: z) = ((3, nameL n) :: (lexE (c :: z)).1, (lexE (c :: z)).2) := by
  obtain ⟨a, b⟩ := itoa_good h0 h1
  exact lexE_word 118 c z (by decide) a (by omega) hc

mutual
/-- the tokens of a written term -/
def tokT : TT → Int → List (Nat × List UInt8)
  | .node k i j n ks, m => if k = 2 then [(3, nameL (m - 1 - i))] else tOpen :: (3, wordK k) :: ((if k = 23 then [(3, symK n)] else []) ++ (if 0 < levelsK k then [(4, Lib.itoa i)] else []) ++ (if 1 < levelsK k then [(4, Lib.itoa j)] else []) ++ (if bindsK k 1 = 1 then [(3, nameL m)] else []) ++ tokTs k m 0 ks ++ [tClose])
def tokTs (k m : Int) (x : Nat) : List TT → List (Nat × List UInt8)
  | [] => []
  | t :: ts => (if k = 22 ∧ x = 2 then [(3, nameL m), (3, nameL (m + 1))] else []) ++ tokT t (m + bindsK k x) ++ tokTs k m (x + 1) ts
end

/-- a text ahead of what ends a word leads to these tokens -/
def Lexes (a : List UInt8) (l : List (Nat × List UInt8)) : Prop := ∀ (c : UInt8) (z : List UInt8), ends c → lexE (a ++ c :: z) = (l ++ (lexE (c :: z)).1, (lexE (c :: z)).2)
theorem Lexes.nil : Lexes [] [] := fun c z _ => by simp
theorem Lexes.next {a b : List UInt8} {l r : List (Nat × List UInt8)} (h1 : Lexes a l) (h2 : Lexes b r) : Lexes (a ++ 32 :: b) (l ++ r) := fun c z hc => by
  rw [List.append_assoc, List.cons_append, h1 32 _ (.inl rfl), lexE_blank 32 _ (.inl rfl), h2 c z hc]
  simp
/-- what stands behind a blank, or nothing -/
def LexesB (a : List UInt8) (l : List (Nat × List UInt8)) : Prop := (a = [] ∧ l = []) ∨ ∃ b, a = 32 :: b ∧ Lexes b l
theorem Lexes.also {a b : List UInt8} {l r : List (Nat × List UInt8)} (h1 : Lexes a l) (h2 : LexesB b r) : Lexes (a ++ b) (l ++ r) := by
  rcases h2 with ⟨rfl, rfl⟩ | ⟨b, rfl, h2⟩
  · simpa using h1
  · exact h1.next h2
theorem LexesB.also {a b : List UInt8} {l r : List (Nat × List UInt8)} (h1 : LexesB a l) (h2 : LexesB b r) : LexesB (a ++ b) (l ++ r) := by
  rcases h1 with ⟨rfl, rfl⟩ | ⟨a, rfl, h1⟩
  · simpa using h2
  · exact .inr ⟨a ++ b, by simp, h1.also h2⟩
theorem LexesB.iff {c : Prop} [Decidable c] {a : List UInt8} {l : List (Nat × List UInt8)} (h : c → Lexes a l) : LexesB (if c then 32 :: a else []) (if c then l else []) := by
  by_cases hc : c
  · rw [if_pos hc, if_pos hc]; exact .inr ⟨a, rfl, h hc⟩
  · rw [if_neg hc, if_neg hc]; exact .inl ⟨rfl, rfl⟩

theorem levels_le {k i j n : Int} (h1 : 1 ≤ k) (h2 : k ≤ 23) (h : numbersB k i j n = true) : (0 < levelsK k → 0 ≤ i ∧ i ≤ 1000) ∧ (1 < levelsK k → 0 ≤ j ∧ j ≤ 1000) := by
  rcases (show k = 1 ∨ k = 2 ∨ k = 3 ∨ k = 4 ∨ k = 5 ∨ k = 6 ∨ k = 7 ∨ k = 8 ∨ k = 9 ∨ k = 10 ∨ k = 11 ∨ k = 12 ∨ k = 13 ∨ k = 14 ∨ k = 15 ∨ k = 16 ∨ k = 17 ∨ k = 18 ∨ k = 19 ∨ k = 20 ∨ k = 21 ∨ k = 22 ∨ k = 23 by omega) with rfl | rfl | rfl | rfl | rfl | rfl | rfl | rfl | rfl | rfl | rfl | rfl | rfl | rfl | rfl | rfl | rfl | rfl | rfl | rfl | rfl | rfl | rfl <;>
    simp [numbersB, levelB, levelsK] at h ⊢ <;> omega
theorem kids_range {k n : Int} {c : Nat} (h : (c : Int) = kidsK k n) : 1 ≤ k ∧ k ≤ 23 ∧ (k = 23 → 1 ≤ n ∧ n ≤ 21) := by
  have hk : 1 ≤ k ∧ k ≤ 23 := by
    unfold kidsK at h
    repeat' (split at h)
    all_goals omega
  refine ⟨hk.1, hk.2, fun h23 => ?_⟩
  subst h23
  have : kidsK 23 n = takesK n := by simp [kidsK]
  rw [this] at h
  unfold takesK at h
  repeat' (split at h)
  all_goals omega

mutual
theorem lexes_T : ∀ (t : TT) (m want : Int), rightT t want = true → freeR t ≤ m → m + 2 * sizeT t ≤ 2147483647 → Lexes (writeT t m) (tokT t m)
  | .node k i j n ks, m, want, hr, hf, hm => by
    obtain ⟨hk, hn, hrs⟩ := rightT_parts hr
    obtain ⟨h1, h2, h3⟩ := kids_range hk
    obtain ⟨l1, l2⟩ := levels_le h1 h2 hn
    have hfr := freeR_in _ _ hr
    by_cases hk2 : k = 2
    · subst hk2
      have : 0 ≤ i := by
        simp [numbersB] at hn; omega
      simp only [freeR, if_true] at hf hfr
      simp only [writeT, tokT, if_true]
      intro c z hc
      rw [lexE_name (by omega) (by simp [sizeT] at hm; omega) c z hc]
      rfl
    · simp only [freeR, if_neg hk2] at hf
      simp only [writeT, tokT, if_neg hk2]
      have hsz : m + 2 + 2 * sizeTs ks ≤ 2147483647 := by simp only [sizeT] at hm; omega
      have hm0 : 0 ≤ m := by simp only [freeR, if_neg hk2] at hfr; omega
      have hkids := lexes_Ts k 0 ks m hrs hf hm0 (by omega)
      have hw : Lexes (wordK k) [(3, wordK k)] := fun c z hc => by
        unfold wordK
        rw [lexE_good (mark_good _ (by omega) (by omega)) c z hc]; rfl
      have hall := (((hw.also (LexesB.iff (c := k = 23) (a := symK n) (l := [(3, symK n)]) fun h c z hc => by
        have h4 := h3 h
        unfold symK
        rw [if_neg (by omega), lexE_good (sym_good _ (by omega)) c z hc]; rfl)).also (LexesB.iff (c := 0 < levelsK k) (a := Lib.itoa i) (l := [(4, Lib.itoa i)]) fun h c z hc => by
        have h4 := l1 h
        rw [lexE_num h4.1 (by omega) c z hc]; rfl)).also (LexesB.iff (c := 1 < levelsK k) (a := Lib.itoa j) (l := [(4, Lib.itoa j)]) fun h c z hc => by
        have h4 := l2 h
        rw [lexE_num h4.1 (by omega) c z hc]; rfl)).also (LexesB.iff (c := bindsK k 1 = 1) (a := nameL m) (l := [(3, nameL m)]) fun h c z hc => by
        rw [lexE_name hm0 (by omega) c z hc]; rfl) |>.also hkids
      intro c z hc
      unfold headT
      have h9 := hall 41 (c :: z) (.inr (.inl rfl))
      simp only [List.cons_append, List.append_assoc, List.nil_append] at h9 ⊢
      rw [lexE_open, h9, lexE_close]
theorem lexes_Ts : ∀ (k : Int) (x : Nat) (ks : List TT) (m : Int), rightTs k x ks = true → freeRs k x ks ≤ m → 0 ≤ m → m + 2 + 2 * sizeTs ks ≤ 2147483647 → LexesB (writeTs k m x ks) (tokTs k m x ks)
  | k, x, [], m, _, _, _, _ => .inl ⟨rfl, rfl⟩
  | k, x, t :: ts, m, hr, hf, hm0, hm => by
    simp only [rightTs, Bool.and_eq_true] at hr
    simp only [freeRs] at hf
    simp only [sizeTs] at hm
    have hb := bindsK_in k x
    have h1 := lexes_T t (m + bindsK k x) _ hr.1 (by omega) (by omega)
    have h2 := lexes_Ts k (x + 1) ts m hr.2 (by omega) hm0 (by omega)
    simp only [writeTs, tokTs]
    rw [List.append_assoc]
    refine LexesB.also ?_ (.inr ⟨_, rfl, h1.also h2⟩)
    by_cases hc : k = 22 ∧ x = 2
    · rw [if_pos hc, if_pos hc]
      have hsz := sizeT_pos t
      refine .inr ⟨_, rfl, Lexes.next (l := [(3, nameL m)]) (r := [(3, nameL (m + 1))]) (fun c z h => ?_) (fun c z h => ?_)⟩
      · rw [lexE_name hm0 (by omega) c z h]; rfl
      · rw [lexE_name (by omega) (by omega) c z h]; rfl
    · rw [if_neg hc, if_neg hc]; exact .inl ⟨rfl, rfl⟩
end
theorem lexE_write {t : TT} {m want : Int} (hr : rightT t want = true) (hf : freeR t ≤ m) (hm : m + 2 * sizeT t ≤ 2147483647) : lexE (writeT t m) = (tokT t m, false) := by
  rw [← lexE_end]
  have h := lexes_T t m want hr hf hm 10 [] (.inr (.inr rfl))
  have hend : lexE [10] = ([], false) := by decide +kernel
  rw [h, hend]
  simp
end Go.Proofs.YtefjgpahgffmfaaDoor
