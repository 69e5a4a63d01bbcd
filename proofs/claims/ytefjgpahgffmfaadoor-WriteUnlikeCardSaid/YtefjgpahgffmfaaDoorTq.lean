/- The texts of two right terms in one context are the same just if the terms are. -/
import Derived.Test.YtefjgpahgffmfaaDoorTp
namespace Go.Proofs.YtefjgpahgffmfaaDoor
open Go.RowKit

theorem free2_cons {c : UInt8} {u : List UInt8} (h1 : c ≠ 32 ∧ c ≠ 41) (h2 : Free2 u) : Free2 (c :: u) := by
  intro d hd
  rcases List.mem_cons.1 hd with rfl | hd
  · exact h1
  · exact h2 d hd
theorem digs_free2 {u : List UInt8} (h : digs u = true) : Free2 u := by
  intro c hc
  have h1 := List.all_eq_true.1 h c hc
  refine ⟨?_, ?_⟩ <;> (intro he; subst he; revert h1; decide)
theorem itoa_free2 (n : Int) : Free2 (Lib.itoa n) := by
  by_cases hn : n < 0
  · obtain ⟨u, hu, rfl⟩ : ∃ u : Nat, 1 ≤ u ∧ n = -(u : Int) := ⟨n.natAbs, by omega, by omega⟩
    rw [Lib.itoa_neg u hu]
    exact free2_cons (by decide) (digs_free2 (digs_dec u).1)
  · obtain ⟨u, rfl⟩ : ∃ u : Nat, n = (u : Int) := ⟨n.toNat, by omega⟩
    rw [Lib.itoa_nonneg u]
    exact digs_free2 (digs_dec u).1
theorem name_free2 (n : Int) : Free2 (nameL n) := free2_cons (by decide) (itoa_free2 n)
theorem name_inj {a b : Int} (h : nameL a = nameL b) : a = b := by
  unfold nameL at h
  exact itoa_inj (List.cons.inj h).2

theorem words_free2 : ∀ u ∈ markWords, Free2 u := by
  have h : ∀ u ∈ markWords, u.all (fun c => c != 32 && c != 41) = true := by decide
  intro u hu c hc
  have := List.all_eq_true.1 (h u hu) c hc
  simpa using this
theorem syms_free2 : ∀ u ∈ symWords, Free2 u := by
  have h : ∀ u ∈ symWords, u.all (fun c => c != 32 && c != 41) = true := by decide
  intro u hu c hc
  have := List.all_eq_true.1 (h u hu) c hc
  simpa using this
theorem getD_free2 {l : List (List UInt8)} (h : ∀ u ∈ l, Free2 u) (n : Nat) : Free2 (l.getD n []) := by
  rw [List.getD_eq_getElem?_getD]
  cases hq : l[n]? with
  | none => intro c hc; simp at hc
  | some u => exact h u (List.mem_of_getElem? hq)
theorem wordK_free2 (k : Int) : Free2 (wordK k) := getD_free2 words_free2 _
theorem symK_free2 (n : Int) : Free2 (symK n) := by
  unfold symK
  split
  · intro c hc; simp at hc
  · exact getD_free2 syms_free2 _
theorem wordK_inj {k k' : Int} (h1 : 1 ≤ k) (h2 : k ≤ 23) (h3 : k ≠ 2) (h1' : 1 ≤ k') (h2' : k' ≤ 23) (h3' : k' ≠ 2) (h : wordK k = wordK k') : k = k' := by
  have key : ∀ a b : Fin 23, a.val ≠ 1 → b.val ≠ 1 → markWords.getD a.val [] = markWords.getD b.val [] → a.val = b.val := by decide +kernel
  have := key ⟨(k - 1).toNat, by omega⟩ ⟨(k' - 1).toNat, by omega⟩ (show (k - 1).toNat ≠ 1 by omega) (show (k' - 1).toNat ≠ 1 by omega) h
  dsimp only at this
  omega
theorem symK_inj {n n' : Int} (h1 : 1 ≤ n) (h2 : n ≤ 21) (h1' : 1 ≤ n') (h2' : n' ≤ 21) (h : symK n = symK n') : n = n' := by
  have key : ∀ a b : Fin 21, symWords.getD a.val [] = symWords.getD b.val [] → a.val = b.val := by decide +kernel
  unfold symK at h
  rw [if_neg (by omega), if_neg (by omega)] at h
  have := key ⟨(n - 1).toNat, by omega⟩ ⟨(n' - 1).toNat, by omega⟩ h
  dsimp only at this
  omega
theorem takesK_in {n : Int} {l : Nat} (h : (l : Int) = takesK n) : 1 ≤ n ∧ n ≤ 21 := by
  unfold takesK at h
  repeat (split at h; omega)
  omega

theorem stop_opt (c : Prop) [Decidable c] (X : List UInt8) {R : List UInt8} (h : Stop R) : Stop ((if c then 32 :: X else []) ++ R) := by
  by_cases hc : c
  · rw [if_pos hc]; exact .inr ⟨32, X ++ R, rfl, .inl rfl⟩
  · rw [if_neg hc]; exact h
theorem opt_split {c : Prop} [Decidable c] {X Y R S : List UInt8} (hx : Free2 X) (hy : Free2 Y) (hr : Stop R) (hs : Stop S) (h : (if c then 32 :: X else []) ++ R = (if c then 32 :: Y else []) ++ S) : (c → X = Y) ∧ R = S := by
  by_cases hc : c
  · rw [if_pos hc, if_pos hc] at h
    obtain ⟨h1, h2⟩ := word_split hx hy hr hs (List.cons.inj h).2
    exact ⟨fun _ => h1, h2⟩
  · rw [if_neg hc, if_neg hc] at h
    exact ⟨fun h => absurd h hc, h⟩
theorem stop_close (r : List UInt8) : Stop (41 :: r) := .inr ⟨41, r, rfl, .inr rfl⟩
theorem stop_writes (k m : Int) (x : Nat) (ks : List TT) (r : List UInt8) : Stop (writeTs k m x ks ++ 41 :: r) := by
  cases ks with
  | nil => exact stop_close r
  | cons t ts =>
    simp only [writeTs]
    by_cases hc : k = 22 ∧ x = 2
    · rw [if_pos hc]; exact .inr ⟨32, _, rfl, .inl rfl⟩
    · rw [if_neg hc]; exact .inr ⟨32, _, rfl, .inl rfl⟩

theorem write_open {k i j n m : Int} {ks : List TT} (hk : k ≠ 2) (r : List UInt8) : writeT (.node k i j n ks) m ++ r = 40 :: (wordK k ++ ((if k = 23 then 32 :: symK n else []) ++ ((if 0 < levelsK k then 32 :: Lib.itoa i else []) ++ ((if 1 < levelsK k then 32 :: Lib.itoa j else []) ++ ((if bindsK k 1 = 1 then 32 :: nameL m else []) ++ (writeTs k m 0 ks ++ 41 :: r)))))) := by
  simp only [writeT, if_neg hk, headT, List.cons_append, List.append_assoc, List.nil_append]

theorem rightT_parts {k i j n : Int} {ks : List TT} {want : Int} (h : rightT (.node k i j n ks) want = true) : (ks.length : Int) = kidsK k n ∧ numbersB k i j n = true ∧ rightTs k 0 ks = true := by
  simp only [rightT, Bool.and_eq_true, beq_iff_eq] at h
  exact ⟨h.1.1.2, h.1.2, h.2⟩

/-- what a kind does not name is nought -/
theorem numbers_zero {k i j n : Int} (h1 : 1 ≤ k) (h2 : k ≤ 23) (h : numbersB k i j n = true) : (k ≠ 23 → n = 0) ∧ (k ≠ 2 → ¬ 0 < levelsK k → i = 0) ∧ (¬ 1 < levelsK k → j = 0) := by
  unfold numbersB at h
  unfold levelsK
  split at h
  · rename_i hk
    simp only [Bool.and_eq_true, beq_iff_eq] at h
    rw [if_pos hk]
    exact ⟨fun _ => h.2, fun _ h => absurd (by omega) h, fun _ => h.1.2⟩
  · rename_i hk
    rw [if_neg hk]
    split at h
    · rename_i hk2
      simp only [Bool.and_eq_true, beq_iff_eq] at h
      exact ⟨fun _ => h.2, fun h3 => absurd hk2 h3, fun _ => h.1.2⟩
    · split at h
      · rename_i hk3
        simp only [Bool.and_eq_true, beq_iff_eq] at h
        rw [if_pos (by omega)]
        exact ⟨fun _ => h.2, fun _ h => absurd (by omega) h, fun h => absurd (by omega) h⟩
      · split at h
        · rename_i hk4
          rw [if_pos (by omega)]
          exact ⟨fun h => absurd hk4 h, fun _ h => absurd (by omega) h, fun h => absurd (by omega) h⟩
        · simp only [Bool.and_eq_true, beq_iff_eq] at h
          exact ⟨fun _ => h.2, fun _ _ => h.1.1, fun _ => h.1.2⟩

theorem writes_inj (N : Nat) (ih : ∀ (a b : TT) (m w w' : Int) (r s : List UInt8), SizeOf.sizeOf a < N → rightT a w = true → rightT b w' = true → Stop r → Stop s → writeT a m ++ r = writeT b m ++ s → a = b ∧ r = s) :
    ∀ (k m : Int) (x : Nat) (ks ls : List TT) (r s : List UInt8), (∀ t ∈ ks, SizeOf.sizeOf t < N) → ks.length = ls.length → rightTs k x ks = true → rightTs k x ls = true → writeTs k m x ks ++ 41 :: r = writeTs k m x ls ++ 41 :: s → ks = ls ∧ r = s
  | _, _, _, [], [], r, s, _, _, _, _, h => ⟨rfl, by simpa [writeTs] using h⟩
  | _, _, _, [], _ :: _, _, _, _, hl, _, _, _ => by simp at hl
  | _, _, _, _ :: _, [], _, _, _, hl, _, _, _ => by simp at hl
  | k, m, x, t :: ts, l :: ls, r, s, hN, hl, h1, h2, h => by
    simp only [rightTs, Bool.and_eq_true] at h1 h2
    simp only [writeTs, List.append_assoc, List.cons_append] at h
    have h3 := List.append_cancel_left h
    obtain ⟨rfl, h5⟩ := ih t l (m + bindsK k x) _ _ _ _ (hN t (by simp)) h1.1 h2.1 (stop_writes _ _ _ _ _) (stop_writes _ _ _ _ _) (List.cons.inj h3).2
    obtain ⟨rfl, rfl⟩ := writes_inj N ih k m (x + 1) ts ls r s (fun u hu => hN u (by simp [hu])) (by simpa using hl) h1.2 h2.2 h5
    exact ⟨rfl, rfl⟩

theorem write_inj : ∀ (N : Nat) (a b : TT) (m w w' : Int) (r s : List UInt8), SizeOf.sizeOf a < N → rightT a w = true → rightT b w' = true → Stop r → Stop s → writeT a m ++ r = writeT b m ++ s → a = b ∧ r = s
  | 0, _, _, _, _, _, _, _, h, _, _, _, _, _ => absurd h (Nat.not_lt_zero _)
  | N + 1, .node k i j n ks, .node k' i' j' n' ks', m, w, w', r, s, hN, ha, hb, hr, hs, h => by
    obtain ⟨a1, a2, a3⟩ := rightT_parts ha
    obtain ⟨b1, b2, b3⟩ := rightT_parts hb
    obtain ⟨k1, k2⟩ := kidsK_in a1
    obtain ⟨l1, l2⟩ := kidsK_in b1
    obtain ⟨z1, z2, z3⟩ := numbers_zero k1 k2 a2
    obtain ⟨y1, y2, y3⟩ := numbers_zero l1 l2 b2
    by_cases hk : k = 2
    · subst hk
      by_cases hk' : k' = 2
      · subst hk'
        simp only [writeT, if_true] at h
        obtain ⟨h1, h2⟩ := word_split (name_free2 _) (name_free2 _) hr hs h
        have h3 := name_inj h1
        have e1 : ks = [] := List.eq_nil_of_length_eq_zero (by rw [show kidsK 2 n = 0 from rfl] at a1; omega)
        have e2 : ks' = [] := List.eq_nil_of_length_eq_zero (by rw [show kidsK 2 n' = 0 from rfl] at b1; omega)
        have e3 := z1 (by omega)
        have e4 := y1 (by omega)
        have e5 := z3 (by decide)
        have e6 := y3 (by decide)
        subst e1 e2 e3 e4 e5 e6
        refine ⟨?_, h2⟩
        have : i = i' := by omega
        rw [this]
      · rw [write_open hk'] at h
        simp only [writeT, if_true, nameL, List.cons_append, List.cons.injEq] at h
        exact absurd h.1 (by decide)
    · by_cases hk' : k' = 2
      · subst hk'
        rw [write_open hk] at h
        simp only [writeT, if_true, nameL, List.cons_append, List.cons.injEq] at h
        exact absurd h.1 (by decide)
      · rw [write_open hk, write_open hk'] at h
        have h0 := (List.cons.inj h).2
        have st : ∀ (k i j n : Int) (ks : List TT) (r : List UInt8), Stop ((if bindsK k 1 = 1 then 32 :: nameL m else []) ++ (writeTs k m 0 ks ++ 41 :: r)) := fun k i j n ks r => stop_opt _ _ (stop_writes _ _ _ _ _)
        obtain ⟨hw, h1⟩ := word_split (wordK_free2 k) (wordK_free2 k') (stop_opt _ _ (stop_opt _ _ (stop_opt _ _ (stop_opt _ _ (stop_writes _ _ _ _ _))))) (stop_opt _ _ (stop_opt _ _ (stop_opt _ _ (stop_opt _ _ (stop_writes _ _ _ _ _))))) h0
        obtain rfl := wordK_inj k1 k2 hk l1 l2 hk' hw
        obtain ⟨hn, h2⟩ := opt_split (symK_free2 n) (symK_free2 n') (stop_opt _ _ (stop_opt _ _ (stop_opt _ _ (stop_writes _ _ _ _ _)))) (stop_opt _ _ (stop_opt _ _ (stop_opt _ _ (stop_writes _ _ _ _ _)))) h1
        obtain ⟨hi, h3⟩ := opt_split (itoa_free2 i) (itoa_free2 i') (stop_opt _ _ (stop_opt _ _ (stop_writes _ _ _ _ _))) (stop_opt _ _ (stop_opt _ _ (stop_writes _ _ _ _ _))) h2
        obtain ⟨hj, h4⟩ := opt_split (itoa_free2 j) (itoa_free2 j') (stop_opt _ _ (stop_writes _ _ _ _ _)) (stop_opt _ _ (stop_writes _ _ _ _ _)) h3
        obtain ⟨_, h5⟩ := opt_split (name_free2 m) (name_free2 m) (stop_writes _ _ _ _ _) (stop_writes _ _ _ _ _) h4
        have en : n = n' := by
          by_cases h23 : k = 23
          · subst h23
            have t1 := takesK_in (l := ks.length) a1
            have t2 := takesK_in (l := ks'.length) b1
            exact symK_inj t1.1 t1.2 t2.1 t2.2 (hn rfl)
          · rw [z1 h23, y1 h23]
        have ei : i = i' := by
          by_cases hl : 0 < levelsK k
          · exact itoa_inj (hi hl)
          · rw [z2 hk hl, y2 hk hl]
        have ej : j = j' := by
          by_cases hl : 1 < levelsK k
          · exact itoa_inj (hj hl)
          · rw [z3 hl, y3 hl]
        subst en ei ej
        have hsz : ∀ t ∈ ks, SizeOf.sizeOf t < N := fun t ht => by
          have := List.sizeOf_lt_of_mem ht
          simp at hN
          omega
        obtain ⟨rfl, rfl⟩ := writes_inj N (write_inj N) k m 0 ks ks' r s hsz (by omega) a3 b3 h5
        exact ⟨rfl, rfl⟩
theorem writeT_inj {a b : TT} {m : Int} (ha : rightT a 0 = true) (hb : rightT b 0 = true) (h : writeT a m = writeT b m) : a = b :=
  (write_inj _ a b m 0 0 [] [] (Nat.lt_succ_self _) ha hb (.inl rfl) (.inl rfl) (by simpa using h)).1
end Go.Proofs.YtefjgpahgffmfaaDoor
