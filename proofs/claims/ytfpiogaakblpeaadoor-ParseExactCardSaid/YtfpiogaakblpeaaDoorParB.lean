/- What was shown is read as it was: on lists. -/
import Derived.Test.YtfpiogaakblpeaaDoorParT
import Derived.Test.YtfpiogaakblpeaaDoorNumP
import Derived.Test.YtfpiogaakblpeaaDoorLexP
namespace Go.Proofs.YtfpiogaakblpeaaDoor
open Go.RowKit

theorem rule_word : ∀ n, n < 28 → ruleI (ruleWords.getD n []) = n + 1 := by decide
theorem ruleI_wordI {r : Int} (h1 : 1 ≤ r) (h2 : r ≤ 28) : ruleI (wordI r) = r.toNat := by
  unfold wordI
  rw [if_neg (by omega), rule_word _ (by omega)]
  omega

theorem kidsI_in {r : Int} {n : Nat} (h : kidsI r = (n : Int)) : 1 ≤ r ∧ r ≤ 28 := by
  unfold kidsI at h
  split at h <;> omega

theorem at_drop {l : List Tok} {k : Nat} {x : Nat × List UInt8} {xs : List (Nat × List UInt8)} (h : (l.drop k).map kt = x :: xs) :
    kindAt l k = x.1 ∧ textAt l k = x.2 ∧ (l.drop (k + 1)).map kt = xs ∧ k < l.length := by
  have hk : k < l.length := by
    rcases Nat.lt_or_ge k l.length with h' | h'
    · exact h'
    · rw [List.drop_of_length_le h'] at h; simp at h
  rw [List.drop_eq_getElem_cons hk, List.map_cons] at h
  obtain ⟨rfl, h2⟩ := List.cons.inj h
  exact ⟨kindAt_eq hk, textAt_eq hk, h2, hk⟩

mutual
theorem derivM_back {E : PEnv} {M : Nat} (hd : ∀ m, m ≤ M → E.dOK m = true) (hn : ∀ m, m ≤ M → E.nOK m = true) : ∀ (d : DT) (f deep k n : Nat) (R : List (Nat × List UInt8)), rightD d = true → E.l.length < k + f →
    (E.l.drop k).map kt = tokD d ++ R → deep + deepD d ≤ M + 1 → n + nodesD d ≤ M → derivM E f deep k n = .ok d (k + (tokD d).length) (n + nodesD d) ∧ (E.l.drop (k + (tokD d).length)).map kt = R
  | .node r i ks, f, deep, k, n, R, hr, hf, ht, hdp, hnd => by
    simp only [tokD, List.cons_append] at ht
    obtain ⟨a1, a2, a3, a4⟩ := at_drop ht
    obtain ⟨b1, b2, b3, b4⟩ := at_drop a3
    obtain ⟨f, rfl⟩ : ∃ g, f = g + 1 := ⟨f - 1, by omega⟩
    simp only [rightD, Bool.and_eq_true, beq_iff_eq, decide_eq_true_eq] at hr
    obtain ⟨⟨⟨⟨hk, hi0⟩, hi1⟩, hi2⟩, hrs⟩ := hr
    obtain ⟨hr1, hr2⟩ := kidsI_in hk
    have hrule : ruleI (textAt E.l (k + 1)) = r.toNat := by rw [b2]; exact ruleI_wordI hr1 hr2
    simp only [nodesD, deepD] at hdp hnd
    unfold derivM
    rw [a1, if_neg (by decide), hd _ (by omega), hn _ (by omega), hrule, b1]
    simp only [Bool.true_eq_false, if_false, ne_eq, not_true_eq_false, false_or]
    rw [if_neg (by omega)]
    by_cases h5 : r = 1 ∨ r = 2
    · have hks : ks = [] := by
        have : kidsI r = 0 := by rcases h5 with rfl | rfl <;> decide
        rw [this] at hk
        exact List.eq_nil_of_length_eq_zero (by omega)
      subst hks
      rw [if_pos h5] at b3
      simp only [tokDs, List.append_nil, List.cons_append, List.nil_append] at b3
      obtain ⟨c1, c2, c3, c4⟩ := at_drop b3
      obtain ⟨d1, d2, d3, d4⟩ := at_drop c3
      rw [if_pos (by omega), c1, if_neg (by simp), c2]
      simp only [closeM, d1, tClose, if_true]
      rw [getN_itoa, if_neg (by omega)]
      simp only [Option.getD_some, tokD, tokDs, nodesD, nodesDs, if_pos h5]
      refine ⟨?_, ?_⟩
      · have e1 : ((r.toNat : Nat) : Int) = r := by omega
        have e2 : ((i.toNat : Nat) : Int) = i := by omega
        rw [e1, e2]; rfl
      · exact d3
    · rw [if_neg (by omega)]
      rw [if_neg h5] at b3
      simp only [List.nil_append, List.append_assoc] at b3
      have hi : i = 0 := by
        simp only [Bool.or_eq_true, beq_iff_eq] at hi2
        omega
      subst hi
      have e1 : ((r.toNat : Nat) : Int) = r := by omega
      have e3 : (kidsI ((r.toNat : Nat) : Int)).toNat = ks.length := by rw [e1, hk]; omega
      rw [e3, e1]
      obtain ⟨q1, q2⟩ := kidsM_back hd hn ks f (deep + 1) (k + 2) (n + 1) [] ([tClose] ++ R) hrs (by omega) b3 (by omega) (by omega)
      obtain ⟨d1, d2, d3, d4⟩ := at_drop q2
      rw [q1]
      simp only [closeM, d1, tClose, if_true, List.nil_append]
      simp only [tokD, nodesD, if_neg h5, List.length_cons, List.length_append, List.length_nil, List.nil_append]
      refine ⟨?_, ?_⟩
      · congr 1 <;> omega
      · refine Eq.trans ?_ (show _ = R from d3); congr 2; omega
theorem kidsM_back {E : PEnv} {M : Nat} (hd : ∀ m, m ≤ M → E.dOK m = true) (hn : ∀ m, m ≤ M → E.nOK m = true) : ∀ (ks : List DT) (f deep k n : Nat) (acc : List DT) (R : List (Nat × List UInt8)), rightDs ks = true → E.l.length < k + f →
    (E.l.drop k).map kt = tokDs ks ++ R → deep + deepDs ks ≤ M + 1 → n + nodesDs ks ≤ M → kidsM (derivM E f deep) ks.length k n acc = .ok (acc ++ ks) (k + (tokDs ks).length) (n + nodesDs ks) ∧ (E.l.drop (k + (tokDs ks).length)).map kt = R
  | [], f, deep, k, n, acc, R, hr, hf, ht, hdp, hnd => by
    simp only [List.length_nil, kidsM, List.append_nil, tokDs, nodesDs, Nat.add_zero, true_and]
    simpa [tokDs] using ht
  | d :: ks, f, deep, k, n, acc, R, hr, hf, ht, hdp, hnd => by
    simp only [rightDs, Bool.and_eq_true] at hr
    simp only [tokDs, List.append_assoc] at ht
    simp only [nodesDs, deepDs] at hdp hnd
    obtain ⟨q1, q2⟩ := derivM_back hd hn d f deep k n (tokDs ks ++ R) hr.1 hf ht (by omega) (by omega)
    have hpos : 0 < (tokD d).length := by cases d; simp [tokD]
    obtain ⟨p1, p2⟩ := kidsM_back hd hn ks f deep (k + (tokD d).length) (n + nodesD d) (acc ++ [d]) R hr.2 (by omega) q2 (by omega) (by omega)
    simp only [List.length_cons, kidsM, q1, p1, tokDs, nodesDs, List.length_append, List.append_assoc, List.singleton_append]
    refine ⟨?_, ?_⟩
    · congr 1 <;> omega
    · rw [← p2]; congr 2; omega
end

theorem ctxM_back {E : PEnv} {M : Nat} (hd : ∀ m, m ≤ M → E.dOK m = true) (hn : ∀ m, m ≤ M → E.nOK m = true) : ∀ (ks : List DT) (f c deep k n : Nat) (acc : List DT) (R : List (Nat × List UInt8)), rightDs ks = true → E.l.length < k + f → ks.length < c →
    (E.l.drop k).map kt = tokDs ks ++ tClose :: R → deep + deepDs ks ≤ M + 1 → n + nodesDs ks ≤ M → ctxM (derivM E f deep) E.l c k n acc = .ok (acc ++ ks) (k + (tokDs ks).length) (n + nodesDs ks) ∧ (E.l.drop (k + (tokDs ks).length)).map kt = tClose :: R
  | [], f, c, deep, k, n, acc, R, hr, hf, hc, ht, hdp, hnd => by
    obtain ⟨c, rfl⟩ : ∃ g, c = g + 1 := ⟨c - 1, by simp at hc; omega⟩
    simp only [tokDs, List.nil_append] at ht
    obtain ⟨a1, _⟩ := at_drop ht
    simp only [ctxM, a1, tClose, if_true, List.append_nil, tokDs, nodesDs, List.length_nil, Nat.add_zero, true_and]
    exact ht
  | d :: ks, f, c, deep, k, n, acc, R, hr, hf, hc, ht, hdp, hnd => by
    obtain ⟨c, rfl⟩ : ∃ g, c = g + 1 := ⟨c - 1, by simp at hc; omega⟩
    simp only [rightDs, Bool.and_eq_true] at hr
    simp only [tokDs, List.append_assoc] at ht
    simp only [nodesDs, deepDs] at hdp hnd
    simp only [List.length_cons] at hc
    have h1 : kindAt E.l k = 1 := by
      have ht2 := ht
      cases d
      simp only [tokD, List.cons_append] at ht2
      exact (at_drop ht2).1
    obtain ⟨q1, q2⟩ := derivM_back hd hn d f deep k n (tokDs ks ++ tClose :: R) hr.1 hf ht (by omega) (by omega)
    have hpos : 0 < (tokD d).length := by cases d; simp [tokD]
    obtain ⟨p1, p2⟩ := ctxM_back hd hn ks f c deep (k + (tokD d).length) (n + nodesD d) (acc ++ [d]) R hr.2 (by omega) (by omega) q2 (by omega) (by omega)
    simp only [ctxM, h1, q1, p1, tokDs, nodesDs, List.length_append, List.append_assoc, List.singleton_append]
    refine ⟨?_, ?_⟩
    · rw [if_neg (by decide)]
      congr 1 <;> omega
    · rw [← p2]; congr 2; omega

theorem tokDs_ge : ∀ (ks : List DT), ks.length ≤ (tokDs ks).length
  | [] => by simp
  | d :: ks => by
    have hpos : 0 < (tokD d).length := by cases d; simp [tokD]
    have := tokDs_ge ks
    simp only [tokDs, List.length_cons, List.length_append]; omega

theorem fileM_back {E : PEnv} {M : Nat} (hd : ∀ m, m ≤ M → E.dOK m = true) (hn : ∀ m, m ≤ M → E.nOK m = true) {cs : List DT} {d : DT} (hc : rightDs cs = true) (hr : rightD d = true)
    (ht : E.l.map kt = tokF cs d) (h1 : max (deepDs cs) (deepD d) ≤ M) (h2 : nodesDs cs + nodesD d ≤ M) : ∃ k n, fileM E = .ok (cs, d) k n := by
  have ht0 : (E.l.drop 0).map kt = tokF cs d := by rw [List.drop_zero]; exact ht
  simp only [tokF] at ht0
  obtain ⟨a1, a2, a3, a4⟩ := at_drop ht0
  obtain ⟨b1, b2, b3, b4⟩ := at_drop a3
  obtain ⟨c1, c2, c3, c4⟩ := at_drop b3
  have hlen := congrArg List.length ht
  have hge := tokDs_ge cs
  simp only [tokF, List.length_map, List.length_cons, List.length_append] at hlen
  obtain ⟨p1, p2⟩ := ctxM_back hd hn cs (E.l.length + 1) (E.l.length + 1) 1 3 0 [] (tokD d ++ [tClose]) hc (by omega) (by omega) c3 (by omega) (by omega)
  obtain ⟨d1, d2, d3, d4⟩ := at_drop p2
  obtain ⟨q1, q2⟩ := derivM_back hd hn d (E.l.length + 1) 1 (3 + (tokDs cs).length + 1) (0 + nodesDs cs) [tClose] hr (by omega) d3 (by omega) (by omega)
  obtain ⟨e1, e2, e3, e4⟩ := at_drop q2
  refine ⟨3 + (tokDs cs).length + 1 + (tokD d).length + 1, 0 + nodesDs cs + nodesD d, ?_⟩
  have a1' : kindAt E.l 0 = 1 := a1
  have b1' : kindAt E.l 1 = 3 := b1
  have b2' : textAt E.l 1 = wordFile := b2
  have c1' : kindAt E.l 2 = 1 := c1
  have e1' : kindAt E.l (3 + (tokDs cs).length + 1 + (tokD d).length) = 2 := e1
  unfold fileM
  rw [a1', b1', c1', b2', if_neg (by decide), if_neg (by simp), if_neg (by decide), p1]
  simp only [restM, q1, e1', if_true, List.nil_append]
  rw [if_neg (by
    have := congrArg List.length e3
    simp only [List.length_map, List.length_drop, List.length_nil] at this
    omega)]

/-! ### the text that is shown, lexed -/

theorem lexE_tok {text z : List UInt8} {kind : Nat} (ho : oneL (text ++ z) = (kind, text, true)) (hk : skip false (text ++ z) = text ++ z) : lexE (text ++ z) = ((kind, text) :: (lexE z).1, (lexE z).2) := by
  have hlen := oneL_len (text ++ z) (by rw [ho])
  rw [ho] at hlen
  have hne : text ++ z ≠ [] := by intro h; rw [List.append_eq_nil_iff] at h; rw [h.1] at hlen; simp at hlen
  rw [lexE_eq _ ((text ++ z).length + 1) 0 (by omega), hk]
  rw [lexR_good hne (by omega) (by rw [ho]), ho]
  have hd : (text ++ z).drop text.length = z := by simp
  dsimp only
  rw [hd]
  have h3 : lexE z = eraseX (lexS ((text ++ z).length + 1) z (0 + text.length)) := by
    rw [lexE_eq z ((text ++ z).length + 1) (0 + text.length + (z.length - (skip false z).length)) (by simp; omega)]
    rfl
  rw [h3]
  rfl

theorem lexE_open (z : List UInt8) : lexE (40 :: z) = (tOpen :: (lexE z).1, (lexE z).2) := by
  have h1 : oneL ([40] ++ z) = (1, [40], true) := by simp [oneL]
  have h2 : skip false ([40] ++ z) = [40] ++ z := by simp [skip]
  exact lexE_tok h1 h2
theorem lexE_close (z : List UInt8) : lexE (41 :: z) = (tClose :: (lexE z).1, (lexE z).2) := by
  have h1 : oneL ([41] ++ z) = (2, [41], true) := by simp [oneL]
  have h2 : skip false ([41] ++ z) = [41] ++ z := by simp [skip]
  exact lexE_tok h1 h2
theorem lexE_blank (c : UInt8) (z : List UInt8) (h : c = 32 ∨ c = 10) : lexE (c :: z) = lexE z := by
  refine lexE_skip _ _ ?_
  rcases h with rfl | rfl <;> simp [skip]

theorem lexE_word {a : List UInt8} (d c : UInt8) (z : List UInt8) (hd : isLetter d.toNat = true) (ha : a.all isAlnum = true) (hl : a.length + 1 ≤ 20) (hc : isAlnum c = false) :
    lexE (d :: a ++ c :: z) = ((3, d :: a) :: (lexE (c :: z)).1, (lexE (c :: z)).2) := by
  have hp := letter_not_paren hd
  refine lexE_tok ?_ ?_
  · simp only [List.cons_append, oneL]
    rw [if_neg (by omega), if_neg (by omega), if_pos hd, takeWhile_sep hc a z ha]
    simp [hl]
  · simp only [List.cons_append, skip]
    rw [if_neg (by omega), if_neg (by omega)]

theorem rule_words : ∀ w ∈ ruleWords, w.length ≤ 7 ∧ w.all isAlnum = true ∧ w.head?.any (fun c => isLetter c.toNat) = true := by decide
theorem lexE_rule {r : Int} (h1 : 1 ≤ r) (h2 : r ≤ 28) (c : UInt8) (z : List UInt8) (hc : isAlnum c = false) : lexE (wordI r ++ c :: z) = ((3, wordI r) :: (lexE (c :: z)).1, (lexE (c :: z)).2) := by
  have hm : wordI r ∈ ruleWords := by
    unfold wordI
    rw [if_neg (by omega), List.getD_eq_getElem?_getD, List.getElem?_eq_getElem (by rw [ruleWords_length]; omega)]
    exact List.getElem_mem _
  obtain ⟨a1, a2, a3⟩ := rule_words _ hm
  revert a1 a2 a3
  generalize wordI r = w
  intro a1 a2 a3
  cases w with
  | nil => simp at a3
  | cons d a =>
    rw [List.all_cons, Bool.and_eq_true] at a2
    simp only [List.length_cons] at a1
    exact lexE_word d c z (by simpa using a3) a2.2 (by omega) hc

theorem lexE_num {i : Int} (h0 : 0 ≤ i) (h1 : i ≤ 1000000) (z : List UInt8) : lexE (Lib.itoa i ++ 41 :: z) = ((4, Lib.itoa i) :: (lexE (41 :: z)).1, (lexE (41 :: z)).2) := by
  have hg := getN_itoa i
  rw [if_neg (by omega), getN_eq_getR] at hg
  obtain ⟨u, rfl⟩ := Int.eq_ofNat_of_zero_le h0
  rw [Lib.itoa_nonneg] at *
  have hd := (digs_dec u).1
  have hpos : 0 < (Lib.decDigits u).length := by rw [Lib.decDigits_length]; exact Lib.nDigits_pos u
  revert hd hpos hg
  generalize Lib.decDigits u = w
  intro hg hd hpos
  cases w with
  | nil => simp at hpos
  | cons d a =>
    simp only [digs, List.all_cons, Bool.and_eq_true] at hd
    have h6 : 48 ≤ d.toNat ∧ d.toNat ≤ 57 := by simpa [isDigit] using hd.1
    have h7 : isLetter d.toNat = false := by simp [isLetter]; omega
    have h8 : (41 : UInt8).toNat = 41 := rfl
    have hpc : isDig 41 = false := by decide
    refine lexE_tok ?_ ?_
    · simp only [List.cons_append, oneL]
      rw [if_neg (by omega), if_neg (by omega), if_neg (by simp [h7]), if_pos hd.1, takeWhile_sep hpc a z hd.2, dropWhile_sep hpc a z hd.2, hg]
      simp
      decide
    · simp only [List.cons_append, skip]
      rw [if_neg (by omega), if_neg (by omega)]

mutual
theorem lexE_show : ∀ (d : DT) (z : List UInt8), rightD d = true → lexE (showD d ++ z) = (tokD d ++ (lexE z).1, (lexE z).2)
  | .node r i ks, z, hr => by
    simp only [rightD, Bool.and_eq_true, beq_iff_eq, decide_eq_true_eq] at hr
    obtain ⟨⟨⟨⟨hk, hi0⟩, hi1⟩, hi2⟩, hrs⟩ := hr
    obtain ⟨hr1, hr2⟩ := kidsI_in hk
    simp only [showD, List.cons_append, List.append_assoc, List.nil_append]
    rw [lexE_open]
    have h3 := lexE_shows ks (41 :: z) hrs
    have h4 := lexE_close z
    by_cases h5 : r = 1 ∨ r = 2
    · have hks : ks = [] := by
        have : kidsI r = 0 := by rcases h5 with rfl | rfl <;> decide
        rw [this] at hk
        exact List.eq_nil_of_length_eq_zero (by omega)
      subst hks
      simp only [if_pos h5, showDs, List.nil_append, List.cons_append]
      rw [lexE_rule hr1 hr2 32 _ (by decide), lexE_blank 32 _ (.inl rfl), lexE_num hi0 hi1, h4]
      simp [tokD, tokDs, if_pos h5]
    · simp only [if_neg h5, List.nil_append]
      cases ks with
      | nil =>
        simp only [showDs, List.nil_append]
        rw [lexE_rule hr1 hr2 41 _ (by decide), h4]
        simp [tokD, tokDs, if_neg h5]
      | cons k ks =>
        have h6 : showDs (k :: ks) ++ 41 :: z = 32 :: (showD k ++ (showDs ks ++ 41 :: z)) := by simp [showDs]
        rw [h6] at h3 ⊢
        rw [lexE_rule hr1 hr2 32 _ (by decide), h3, h4]
        simp [tokD, if_neg h5]
theorem lexE_shows : ∀ (ks : List DT) (z : List UInt8), rightDs ks = true → lexE (showDs ks ++ z) = (tokDs ks ++ (lexE z).1, (lexE z).2)
  | [], z, _ => by simp [showDs, tokDs]
  | k :: ks, z, hr => by
    simp only [rightDs, Bool.and_eq_true] at hr
    simp only [showDs, List.cons_append, List.append_assoc, tokDs]
    rw [lexE_blank 32 _ (.inl rfl), lexE_show k _ hr.1, lexE_shows ks z hr.2]
end

theorem lexE_ctx (cs : List DT) (z : List UInt8) (h : rightDs cs = true) : lexE (showCtx cs ++ z) = (tokDs cs ++ (lexE z).1, (lexE z).2) := by
  cases cs with
  | nil => simp [showCtx, tokDs]
  | cons k ks =>
    simp only [rightDs, Bool.and_eq_true] at h
    simp only [showCtx, List.append_assoc, tokDs]
    rw [lexE_show k _ h.1, lexE_shows ks z h.2]

theorem lexE_file (cs : List DT) (d : DT) (hc : rightDs cs = true) (hr : rightD d = true) : lexE (showF cs d) = (tokF cs d, false) := by
  have e : showF cs d = 40 :: ([102, 105, 108, 101] ++ 32 :: (40 :: (showCtx cs ++ 41 :: 32 :: (showD d ++ [41, 10])))) := by simp [showF, fileHead]
  have hend : lexE [10] = ([], false) := by decide +kernel
  rw [e, lexE_open, lexE_word (a := [105, 108, 101]) 102 32 _ (by decide) (by decide) (by decide) (by decide), lexE_blank 32 _ (.inl rfl), lexE_open, lexE_ctx cs _ hc, lexE_close, lexE_blank 32 _ (.inl rfl), lexE_show d _ hr, lexE_close, hend]
  simp [tokF, wordFile]

/-- the lexer's tokens are tokens -/
theorem tokOK_lexL (l : List UInt8) : TokOK (lexL l).1 := by
  have key : ∀ t ∈ (lexL l).1, ∃ x, oneL x = (t.kind, t.text, true) := fun t ht => lexL_each (toks := (lexL l).1) (x := (lexL l).2) rfl t ht
  have kinds : ∀ (x : List UInt8) (k : Nat) (t : List UInt8), oneL x = (k, t, true) → (k = 1 → t = [40]) ∧ (k = 2 → t = [41]) ∧ (k = 4 → (getN t).isSome = true) := by
    intro x k t h
    cases x with
    | nil => simp [oneL] at h
    | cons c r =>
      simp only [oneL] at h
      split at h
      · simp only [Prod.mk.injEq] at h; obtain ⟨rfl, rfl, _⟩ := h; simp
      split at h
      · simp only [Prod.mk.injEq] at h; obtain ⟨rfl, rfl, _⟩ := h; simp
      split at h
      · simp only [Prod.mk.injEq] at h; obtain ⟨rfl, rfl, _⟩ := h; simp
      split at h
      · simp only [Prod.mk.injEq, Bool.and_eq_true] at h
        obtain ⟨rfl, rfl, h2, _⟩ := h
        rw [getN_eq_getR]
        simp [h2]
      · simp at h
  refine ⟨fun t ht => ?_, fun t ht => ?_, fun t ht => ?_⟩
  all_goals
    obtain ⟨x, hx⟩ := key t ht
    obtain ⟨h1, h2, h3⟩ := kinds x _ _ hx
  · exact h1
  · exact h2
  · exact h3

theorem wholeM_back {dOK nOK : Nat → Bool} {M : Nat} (hd : ∀ m, m ≤ M → dOK m = true) (hn : ∀ m, m ≤ M → nOK m = true) {cs : List DT} {d : DT} (hc : rightDs cs = true) (hr : rightD d = true)
    (h1 : max (deepDs cs) (deepD d) ≤ M) (h2 : nodesDs cs + nodesD d ≤ M) : ∃ k n, wholeM dOK nOK (showF cs d) = .ok (cs, d) k n := by
  have h := lexE_file cs d hc hr
  unfold lexE eraseX at h
  obtain ⟨h3, h4⟩ := Prod.mk.inj h
  obtain ⟨k, n, h5⟩ := fileM_back (E := ⟨(lexL (showF cs d)).1, dOK, nOK⟩) hd hn hc hr h3 h1 h2
  refine ⟨k, n, ?_⟩
  unfold wholeM
  rw [h5]
  have : (lexL (showF cs d)).2 = none := by simpa using h4
  simp [this]

/-- right derivations with one text are one -/
theorem showD_inj {a b : DT} (ha : rightD a = true) (hb : rightD b = true) (h : showD a = showD b) : a = b := by
  obtain ⟨k, n, h1⟩ := wholeM_back (dOK := fun _ => true) (nOK := fun _ => true) (M := deepD a + nodesD a) (fun _ _ => rfl) (fun _ _ => rfl) (cs := []) (d := a) rfl ha (by simp [deepDs]) (by simp [nodesDs])
  obtain ⟨k', n', h2⟩ := wholeM_back (dOK := fun _ => true) (nOK := fun _ => true) (M := deepD b + nodesD b) (fun _ _ => rfl) (fun _ _ => rfl) (cs := []) (d := b) rfl hb (by simp [deepDs]) (by simp [nodesDs])
  have e : showF [] a = showF [] b := by simp [showF, h]
  rw [e, h2] at h1
  simp only [Res.ok.injEq, Prod.mk.injEq] at h1
  exact h1.1.2.symm

mutual
theorem deep_le_nodes : ∀ (d : DT), deepD d ≤ nodesD d
  | .node _ _ ks => by have := deeps_le_nodes ks; simp only [deepD, nodesD]; omega
theorem deeps_le_nodes : ∀ (ks : List DT), deepDs ks ≤ nodesDs ks
  | [] => by simp [deepDs, nodesDs]
  | k :: ks => by have := deep_le_nodes k; have := deeps_le_nodes ks; simp only [deepDs, nodesDs]; omega
end
mutual
theorem nodes_le_tok : ∀ (d : DT), nodesD d ≤ (tokD d).length
  | .node _ _ ks => by have := nodess_le_tok ks; simp only [tokD, nodesD, List.length_cons, List.length_append]; omega
theorem nodess_le_tok : ∀ (ks : List DT), nodesDs ks ≤ (tokDs ks).length
  | [] => by simp [nodesDs]
  | k :: ks => by have := nodes_le_tok k; have := nodess_le_tok ks; simp only [tokDs, nodesDs, List.length_append]; omega
end
end Go.Proofs.YtfpiogaakblpeaaDoor
