/- What was written is read as it was: on lists. -/
import Derived.Test.YtefjgpahgffmfaaDoorWe
import Derived.Test.YtefjgpahgffmfaaDoorLaw09
namespace Go.Proofs.YtefjgpahgffmfaaDoor
open Go.RowKit

theorem at_drop {l : List Tok} {k : Nat} {x : Nat × List UInt8} {xs : List (Nat × List UInt8)} (h : (l.drop k).map eraseT = x :: xs) :
    kindAt l k = x.1 ∧ textAt l k = x.2 ∧ (l.drop (k + 1)).map eraseT = xs ∧ k < l.length := by
  have hk : k < l.length := by
    rcases Nat.lt_or_ge k l.length with h' | h'
    · exact h'
    · rw [List.drop_of_length_le h'] at h; simp at h
  rw [List.drop_eq_getElem_cons hk, List.map_cons] at h
  obtain ⟨rfl, h2⟩ := List.cons.inj h
  exact ⟨kindAt_eq hk, textAt_eq hk, h2, hk⟩

theorem kindW_mark : ∀ k : Nat, k < 23 → k ≠ 1 → kindW (markWords.getD k []) = k + 1 := by decide +kernel
theorem kindW_wordK {kd : Nat} (h1 : 1 ≤ kd) (h2 : kd ≤ 23) (h3 : kd ≠ 2) : kindW (wordK kd) = kd := by
  unfold wordK
  rw [show (((kd : Nat) : Int) - 1).toNat = kd - 1 by omega, kindW_mark _ (by omega) (by omega)]
  omega
theorem look_name {m : Nat} {i : Nat} (h : i < m) : lookM (namesL m) (nameL ((m : Int) - 1 - i)) = some i := by
  have e : ((m : Int) - 1 - i) = ((m - 1 - i : Nat) : Int) := by omega
  have hat : ∀ x, x < m → (namesL m)[x]? = some (nameL x) := fun x hx => by simp [namesL, hx]
  rw [e, look_some (p := m - 1 - i) (hat _ (by omega)) (fun x h1 h2 => ?_)]
  · rw [namesL_len]; congr 1; omega
  · rw [namesL_len] at h2
    rw [hat x h2]
    intro hc
    have := name_inj (Option.some.inj hc)
    omega

theorem lev_back {E : REnv} {k i : Nat} {R : List (Nat × List UInt8)} (hi : i ≤ 1000) (h : (E.l.drop k).map eraseT = (4, Lib.itoa i) :: R) : levM E k = .ok i (k + 1) ∧ (E.l.drop (k + 1)).map eraseT = R := by
  obtain ⟨a1, a2, a3, _⟩ := at_drop h
  refine ⟨?_, a3⟩
  unfold levM levelM
  rw [if_pos a1, a2, getN_itoa, if_neg (by omega)]
  unfold capM
  simp only [Option.getD_some]
  rw [if_neg (by omega)]
  congr 1
theorem word_back {E : REnv} {k : Nat} {s : List UInt8} {R : List (Nat × List UInt8)} (h : (E.l.drop k).map eraseT = (3, s) :: R) : wordM E k = .ok s (k + 1) ∧ (E.l.drop (k + 1)).map eraseT = R := by
  obtain ⟨a1, a2, a3, _⟩ := at_drop h
  refine ⟨?_, a3⟩
  unfold wordM
  rw [if_pos a1, a2]
theorem names_add (m : Nat) (b : Nat) (nm : List (List UInt8)) (h : b = 1 ∧ nm = [nameL m] ∨ b = 2 ∧ nm = [nameL m, nameL ((m : Int) + 1)]) : namesL m ++ nm = namesL (m + b) := by
  rcases h with ⟨rfl, rfl⟩ | ⟨rfl, rfl⟩
  · rw [namesL_succ]
  · rw [show m + 2 = (m + 1) + 1 from rfl, namesL_succ, namesL_succ]
    simp

theorem head_back {E : REnv} {kd k n i j : Nat} {R : List (Nat × List UInt8)} (h1 : 1 ≤ kd) (h2 : kd ≤ 23) (h3 : kd ≠ 2) (hn : numbersB kd i j n = true) (hs : kd = 23 → 1 ≤ n ∧ n ≤ 21)
    (h : (E.l.drop k).map eraseT = ((if (kd : Int) = 23 then [(3, symK n)] else []) ++ (if 0 < levelsK kd then [(4, Lib.itoa i)] else []) ++ (if 1 < levelsK kd then [(4, Lib.itoa j)] else [])) ++ R) :
    ∃ k', headM E kd k = .ok (n, i, j) k' ∧ (E.l.drop k').map eraseT = R ∧ k' = k + ((if (kd : Int) = 23 then [(3, symK n)] else []) ++ (if 0 < levelsK kd then [(4, Lib.itoa i)] else []) ++ (if 1 < levelsK kd then [(4, Lib.itoa j)] else [])).length := by
  obtain ⟨l1, l2⟩ := levels_le (k := kd) (by omega) (by omega) hn
  obtain ⟨z1, z2, z3⟩ := numbers_zero (k := kd) (by omega) (by omega) hn
  unfold headM
  by_cases h23 : kd = 23
  · subst h23
    have e1 : levelsK ((23 : Nat) : Int) = 2 := by decide
    have e2 : (((23 : Nat) : Int) = 23) = True := by simp
    rw [e1] at h l1 l2
    simp only [e2, if_true, e1, show (0 < 2) = True by simp, show (1 < 2) = True by simp] at h ⊢
    simp only [List.cons_append, List.nil_append] at h
    obtain ⟨w1, w2⟩ := word_back (E := E) h
    obtain ⟨v1, v2⟩ := lev_back (E := E) (by have := l1 (by omega); omega) w2
    obtain ⟨u1, u2⟩ := lev_back (E := E) (by have := l2 (by omega); omega) v2
    have hsym : symM E k = .ok n (k + 1) := by
      unfold symM
      rw [w1, RR.bind_ok]
      have h5 := symI_symK (n := (n : Int)) (by have := hs rfl; omega)
      have h6 : symI (symK n) = n := by omega
      have := hs rfl
      rw [h6, if_neg (by omega)]
    rw [hsym, RR.bind_ok, v1, RR.bind_ok, u1, RR.bind_ok]
    exact ⟨_, rfl, u2, rfl⟩
  · have e2 : ¬ ((kd : Int) = 23) := by omega
    rw [if_neg h23]
    rw [if_neg e2] at h ⊢
    have hn0 : n = 0 := by have := z1 e2; omega
    subst hn0
    by_cases g2 : levelsK kd = 2
    · rw [if_pos g2]
      rw [g2] at h l1 l2 ⊢
      simp only [show (0 < 2) = True by simp, show (1 < 2) = True by simp, if_true, List.nil_append, List.cons_append] at h ⊢
      obtain ⟨v1, v2⟩ := lev_back (E := E) (by have := l1 (by omega); omega) h
      obtain ⟨u1, u2⟩ := lev_back (E := E) (by have := l2 (by omega); omega) v2
      rw [v1, RR.bind_ok, u1, RR.bind_ok]
      exact ⟨_, rfl, u2, rfl⟩
    · rw [if_neg g2]
      by_cases g1 : levelsK kd = 1
      · rw [if_pos g1]
        rw [g1] at h l1 z3 ⊢
        simp only [show (0 < 1) = True by simp, show ¬ (1 < 1) by omega, if_true, if_false, List.nil_append, List.append_nil, List.cons_append] at h ⊢
        obtain ⟨v1, v2⟩ := lev_back (E := E) (by have := l1 (by omega); omega) h
        have hj0 : j = 0 := by have := z3 (by omega); omega
        subst hj0
        rw [v1, RR.bind_ok]
        exact ⟨_, rfl, v2, rfl⟩
      · rw [if_neg g1]
        have g0 : levelsK kd = 0 := by
          have : levelsK kd ≤ 2 := by
            unfold levelsK
            split
            · omega
            · split <;> omega
          omega
        rw [g0] at h z2 z3 ⊢
        simp only [show ¬ (0 < 0) by omega, show ¬ (1 < 0) by omega, if_false, List.nil_append, List.append_nil] at h ⊢
        have hi0 : i = 0 := by have := z2 (by omega) (by omega); omega
        have hj0 : j = 0 := by have := z3 (by omega); omega
        subst hi0 hj0
        exact ⟨_, rfl, h, rfl⟩

theorem not_wrong {want kd : Nat} {ii jj nn : Int} {ks : List TT} (h : rightT (.node kd ii jj nn ks) want = true) (hw : want ≤ 2) (h1 : 1 ≤ kd) (h2 : kd ≤ 23) (h3 : kd ≠ 2) : wrongM want kd = false := by
  simp only [rightT, Bool.and_eq_true, Bool.not_eq_true'] at h
  have h5 := h.1.1.1
  unfold sortK at h5
  unfold wrongM
  rcases (show want = 0 ∨ want = 1 ∨ want = 2 by omega) with rfl | rfl | rfl
  · simp; omega
  · by_cases g1 : kd = 1
    · subst g1; rfl
    · by_cases g2 : kd ≤ 12
      · simp; omega
      · rw [if_neg (by omega), if_neg (by omega)] at h5
        simp at h5
  · by_cases g1 : kd = 1
    · subst g1; rfl
    · by_cases g2 : kd ≤ 12
      · rw [if_neg (by omega), if_pos (by omega)] at h5
        simp at h5
      · simp; omega

mutual
theorem term_back {E : REnv} : ∀ (t : TT) (f k want m : Nat) (R : List (Nat × List UInt8)), rightT t want = true → want ≤ 2 → freeR t ≤ m → E.l.length < k + f → (E.l.drop k).map eraseT = tokT t m ++ R →
    termM E f (namesL m) want k = .ok t (k + (tokT t m).length) ∧ (E.l.drop (k + (tokT t m).length)).map eraseT = R
  | .node kk ii jj nn ks, f, k, want, m, R, hr, hw, hf, hfu, ht => by
    obtain ⟨hk, hn, hrs⟩ := rightT_parts hr
    obtain ⟨h1, h2, h3⟩ := kids_range hk
    obtain ⟨kd, rfl⟩ := Int.eq_ofNat_of_zero_le (show 0 ≤ kk by omega)
    by_cases hk2 : kd = 2
    · subst hk2
      have hks : ks = [] := List.eq_nil_of_length_eq_zero (by
        have : kidsK ((2 : Nat) : Int) nn = 0 := by simp [kidsK]
        rw [this] at hk; omega)
      subst hks
      simp only [tokT, show (((2 : Nat) : Int) = 2) = True by simp, if_true, List.cons_append, List.nil_append, List.length_cons, List.length_nil] at ht ⊢
      obtain ⟨a1, a2, a3, a4⟩ := at_drop ht
      obtain ⟨f, rfl⟩ : ∃ g, f = g + 1 := ⟨f - 1, by omega⟩
      simp only [freeR, show (((2 : Nat) : Int) = 2) = True by simp, if_true] at hf
      have hz : 0 ≤ ii ∧ jj = 0 ∧ nn = 0 := by
        simp [numbersB] at hn; omega
      obtain ⟨hi0, rfl, rfl⟩ := hz
      obtain ⟨i, rfl⟩ := Int.eq_ofNat_of_zero_le hi0
      refine ⟨?_, a3⟩
      unfold termM
      rw [if_pos a1, a2]
      dsimp only
      rw [look_name (by omega)]
      rfl
    · have hk2' : ¬ ((kd : Int) = 2) := by omega
      simp only [freeR, if_neg hk2'] at hf
      simp only [tokT, if_neg hk2', List.cons_append] at ht ⊢
      obtain ⟨a1, a2, a3, a4⟩ := at_drop ht
      obtain ⟨b1, b2, b3, b4⟩ := at_drop a3
      obtain ⟨f, rfl⟩ : ∃ g, f = g + 1 := ⟨f - 1, by omega⟩
      have hwr := not_wrong hr hw (by omega) (by omega) hk2
      obtain ⟨z1, z2, z3⟩ := numbers_zero (k := kd) (by omega) (by omega) hn
      obtain ⟨l1, l2⟩ := levels_le (k := kd) (by omega) (by omega) hn
      have hn0 : 0 ≤ nn := by
        by_cases h23 : (kd : Int) = 23
        · have := h3 h23; omega
        · have := z1 h23; omega
      have hi0 : 0 ≤ ii := by
        by_cases g : 0 < levelsK kd
        · exact (l1 g).1
        · have := z2 hk2' g; omega
      have hj0 : 0 ≤ jj := by
        by_cases g : 1 < levelsK kd
        · exact (l2 g).1
        · have := z3 g; omega
      obtain ⟨n, rfl⟩ := Int.eq_ofNat_of_zero_le hn0
      obtain ⟨i, rfl⟩ := Int.eq_ofNat_of_zero_le hi0
      obtain ⟨j, rfl⟩ := Int.eq_ofNat_of_zero_le hj0
      simp only [List.append_assoc] at b3
      obtain ⟨k1, q1, q2, q3⟩ := head_back (E := E) (k := k + 2) (kd := kd) (n := n) (i := i) (j := j) (R := (if bindsK kd 1 = 1 then [(3, nameL m)] else []) ++ (tokTs kd m 0 ks ++ ([tClose] ++ R))) (by omega) (by omega) hk2 hn (fun h => by have := h3 (by omega); omega) (by rw [b3]; simp only [List.append_assoc])
      have hnm : ∃ nm k2, ((if bindsK kd 1 = 1 then (wordM E k1).bind fun s k2 => .ok [s] k2 else .ok [] k1 : RR (List (List UInt8))) = .ok nm k2) ∧ (E.l.drop k2).map eraseT = tokTs kd m 0 ks ++ ([tClose] ++ R) ∧ k2 = k1 + (if bindsK kd 1 = 1 then [(3, nameL m)] else [] : List (Nat × List UInt8)).length ∧ (kd ≠ 22 → ∀ y : Nat, 0 < bindsK kd y → nm = [nameL m]) := by
        by_cases hb : bindsK kd 1 = 1
        · rw [if_pos hb] at q2 ⊢
          rw [if_pos hb]
          obtain ⟨w1, w2⟩ := word_back (E := E) q2
          rw [w1, RR.bind_ok]
          exact ⟨_, _, rfl, w2, rfl, fun _ _ _ => rfl⟩
        · rw [if_neg hb] at q2 ⊢
          rw [if_neg hb]
          exact ⟨_, _, rfl, q2, rfl, fun h22 y hy => absurd (binds_kd h22 hy).2 hb⟩
      obtain ⟨nm, k2, r1, r2, r3, r4⟩ := hnm
      obtain ⟨s1, s2⟩ := kids_back (E := E) ks kd 0 f k2 m nm [] ([tClose] ++ R) hrs hf (by omega) r4 r2
      obtain ⟨c1, c2, c3, c4⟩ := at_drop s2
      have hlen : (kidsK (kd : Int) (n : Int)).toNat = ks.length := by omega
      have hbody : bodyM E (termM E f) (namesL m) kd (k + 2) = .ok (.node kd i j n ks) (k2 + (tokTs kd m 0 ks).length + 1) := by
        unfold bodyM
        rw [q1, RR.bind_ok]
        dsimp only
        rw [r1, RR.bind_ok, hlen, s1, RR.bind_ok]
        unfold closeM
        have c1' : kindAt E.l (k2 + (tokTs kd m 0 ks).length) = 2 := c1
        rw [if_pos c1']
        rfl
      refine ⟨?_, ?_⟩
      · unfold termM
        rw [if_neg (by rw [a1]; decide), if_neg (by rw [a1]; simp [tOpen]), if_neg (by rw [b1]; simp), b2]
        dsimp only
        rw [kindW_wordK (by omega) (by omega) hk2, if_neg (by rw [hwr]; simp), hbody]
        congr 1
        rw [r3, q3]
        simp only [List.length_cons, List.length_append, List.length_nil]
        omega
      · have : k + (tOpen :: (3, wordK kd) :: ((if (kd : Int) = 23 then [(3, symK n)] else []) ++ (if 0 < levelsK kd then [(4, Lib.itoa i)] else []) ++ (if 1 < levelsK kd then [(4, Lib.itoa j)] else []) ++ (if bindsK kd 1 = 1 then [(3, nameL m)] else []) ++ tokTs kd m 0 ks ++ [tClose])).length = k2 + (tokTs kd m 0 ks).length + 1 := by
          rw [r3, q3]
          simp only [List.length_cons, List.length_append, List.length_nil]
          omega
        rw [this]
        exact c3
theorem kids_back {E : REnv} : ∀ (ks : List TT) (kd x f k m : Nat) (nm : List (List UInt8)) (acc : List TT) (R : List (Nat × List UInt8)), rightTs kd x ks = true → freeRs kd x ks ≤ m → E.l.length < k + f → (kd ≠ 22 → ∀ y : Nat, 0 < bindsK kd y → nm = [nameL m]) → (E.l.drop k).map eraseT = tokTs kd m x ks ++ R →
    kidsM E (termM E f) (namesL m) kd ks.length x nm acc k = .ok (acc ++ ks) (k + (tokTs kd m x ks).length) ∧ (E.l.drop (k + (tokTs kd m x ks).length)).map eraseT = R
  | [], kd, x, f, k, m, nm, acc, R, _, _, _, _, ht => by
    exact ⟨by simp [kidsM, tokTs], by simpa [tokTs] using ht⟩
  | t :: ts, kd, x, f, k, m, nm, acc, R, hr, hf, hfu, hnm, ht => by
    simp only [rightTs, Bool.and_eq_true] at hr
    simp only [freeRs] at hf
    simp only [tokTs, List.append_assoc] at ht
    have hbi := bindsK_in kd x
    obtain ⟨b, hb⟩ := Int.eq_ofNat_of_zero_le hbi.1
    have hbind : ∃ nm1 k1, bindM E kd x nm k = .ok nm1 k1 ∧ (E.l.drop k1).map eraseT = tokT t (m + bindsK kd x) ++ (tokTs kd m (x + 1) ts ++ R) ∧ k1 = k + (if (kd : Int) = 22 ∧ x = 2 then [(3, nameL m), (3, nameL (m + 1))] else [] : List (Nat × List UInt8)).length ∧ (if 0 < bindsK kd x then namesL m ++ nm1 else namesL m) = namesL (m + b) ∧ (kd ≠ 22 → nm1 = nm) := by
      unfold bindM
      by_cases hc : kd = 22 ∧ x = 2
      · have hc' : (kd : Int) = 22 ∧ x = 2 := ⟨by omega, hc.2⟩
        rw [if_pos hc'] at ht ⊢
        rw [if_pos hc]
        simp only [List.cons_append, List.nil_append] at ht
        obtain ⟨w1, w2⟩ := word_back (E := E) ht
        obtain ⟨v1, v2⟩ := word_back (E := E) w2
        rw [w1, RR.bind_ok, v1, RR.bind_ok]
        have h22 := binds_22 x
        rw [if_pos hc.2] at h22
        rw [hc.1] at hb ⊢
        rw [hc.1] at v2
        refine ⟨_, _, rfl, v2, rfl, ?_, fun h => absurd rfl h⟩
        rw [if_pos (by omega)]
        exact names_add m b _ (.inr ⟨by omega, rfl⟩)
      · have hc' : ¬ ((kd : Int) = 22 ∧ x = 2) := fun h => hc ⟨by omega, h.2⟩
        rw [if_neg hc'] at ht ⊢
        rw [if_neg hc]
        refine ⟨_, _, rfl, ht, rfl, ?_, fun _ => rfl⟩
        by_cases hp : 0 < bindsK kd x
        · rw [if_pos hp]
          by_cases h22 : kd = 22
          · rw [h22, binds_22] at hp
            split at hp
            · exact absurd ⟨h22, by assumption⟩ hc
            · omega
          · rw [hnm h22 x hp]
            exact names_add m b _ (.inl ⟨by have := (binds_kd h22 hp).1; omega, rfl⟩)
        · rw [if_neg hp]
          have : b = 0 := by omega
          rw [this]; rfl
    obtain ⟨nm1, k1, p1, p2, p3, p4, p5⟩ := hbind
    have hmb : (m : Int) + bindsK kd x = ((m + b : Nat) : Int) := by omega
    rw [hmb] at p2
    obtain ⟨t1, t2⟩ := term_back (E := E) t f k1 (ofK kd x).toNat (m + b) _ (by rw [(ofK_to kd x).1]; exact hr.1) (ofK_to kd x).2 (by omega) (by omega) p2
    obtain ⟨u1, u2⟩ := kids_back (E := E) ts kd (x + 1) f (k1 + (tokT t (m + b : Nat)).length) m nm1 (acc ++ [t]) R hr.2 (by omega) (by omega) (fun h22 => by rw [p5 h22]; exact hnm h22) t2
    have hlen : k + (tokTs kd m x (t :: ts)).length = k1 + (tokT t (m + b : Nat)).length + (tokTs kd m (x + 1) ts).length := by
      simp only [tokTs, List.length_append, hmb]
      omega
    rw [hlen]
    refine ⟨?_, u2⟩
    simp only [List.length_cons, kidsM]
    rw [p1, RR.bind_ok, p4, t1, RR.bind_ok, u1]
    simp
end
theorem read_written {t : TT} {m i0 j0 : Nat} (hr : rightT t 0 = true) (hf : freeR t ≤ m) (hm : m + 2 * sizeT t ≤ 2147483647) : ∃ k, readM (writeT t m) (namesL m) i0 j0 = .ok t k := by
  have h := lexE_write hr hf (by omega)
  unfold lexE eraseX at h
  obtain ⟨h3, h4⟩ := Prod.mk.inj h
  rcases hl : lexL (writeT t m) with ⟨toks, o⟩
  rw [hl] at h3 h4
  dsimp only at h3 h4
  have ho : o = none := by simpa using h4
  subst ho
  obtain ⟨a, b⟩ := term_back (E := ⟨toks, i0, j0⟩) t (toks.length + 1) 0 0 m [] hr (by omega) hf (by dsimp only; omega) (by simpa using h3)
  have hlen : (tokT t m).length = toks.length := by rw [← h3]; simp
  refine ⟨0 + (tokT t m).length, ?_⟩
  unfold readM
  rw [hl]
  dsimp only
  rw [a, RR.bind_ok, if_neg (by simp; omega)]
end Go.Proofs.YtefjgpahgffmfaaDoor
