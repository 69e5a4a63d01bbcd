/- Right terms, free variables, texts of terms: on trees. Terms on trees: what is right by the document's definition; what is free; texts tell terms apart. The texts of two right terms in one context are the same just if the terms are. Walks of the switches over a term's kind: term.takes, Kids, sort, level; bare.Binds; transhipref04.Binds, level. Walks of term.numbers and transhipref04.numbers. -/
import Derived.Test.YtfklmcmoackepaaDoorTs
import Derived.Test.YtfklmcmoackepaaDoorNumW
import Derived.Test.YtfklmcmoackepaaDoorNumP
namespace Go.Proofs.YtfklmcmoackepaaDoor
open Go.RowKit

/-- term.takes -/
def takesK (n : Int) : Int :=
  if n = 3 ∨ n = 5 ∨ n = 6 ∨ n = 8 ∨ n = 10 ∨ n = 11 then 4
  else if n = 1 ∨ n = 2 ∨ n = 7 ∨ n = 9 then 5
  else if n = 4 ∨ n = 12 ∨ n = 13 ∨ n = 14 ∨ n = 21 then 6
  else if n = 15 ∨ n = 18 ∨ n = 19 ∨ n = 20 then 9
  else if n = 16 ∨ n = 17 then 12
  else -1
/-- term.Kids -/
def kidsK (k n : Int) : Int :=
  if k = 1 ∨ k = 2 then 0
  else if k = 18 ∨ k = 19 then 1
  else if k = 3 ∨ k = 6 ∨ k = 13 ∨ k = 14 ∨ k = 15 ∨ k = 16 ∨ k = 21 ∨ k = 11 then 2
  else if k = 4 ∨ k = 8 ∨ k = 9 ∨ k = 10 ∨ k = 20 then 3
  else if k = 5 ∨ k = 7 ∨ k = 12 ∨ k = 17 then 4
  else if k = 22 then 6
  else if k = 23 then takesK n
  else -1
/-- bare.Binds -/
def bindsK (k x : Int) : Int :=
  if (k = 3 ∨ k = 5 ∨ k = 6 ∨ k = 7 ∨ k = 8 ∨ k = 9 ∨ k = 13 ∨ k = 14 ∨ k = 16 ∨ k = 17) ∧ x = 1 then 1
  else if k = 4 ∧ (x = 1 ∨ x = 2) then 1
  else if k = 22 ∧ x = 2 then 2
  else 0
def levelB (n : Int) : Bool := decide (0 ≤ n) && decide (n ≤ 1000)
/-- term.numbers -/
def numbersB (k i j n : Int) : Bool :=
  if k = 1 ∨ k = 10 ∨ k = 11 ∨ k = 12 then levelB i && j == 0 && n == 0
  else if k = 2 then decide (0 ≤ i) && decide (i ≤ 2147483647) && j == 0 && n == 0
  else if k = 3 ∨ k = 4 ∨ k = 5 ∨ k = 6 ∨ k = 7 ∨ k = 8 ∨ k = 9 then levelB i && levelB j && n == 0
  else if k = 23 then levelB i && levelB j
  else i == 0 && j == 0 && n == 0
/-- term.sort -/
def sortK (k : Int) : Int := if k = 1 ∨ k = 2 then 0 else if k ≤ 12 then 1 else 2
/-- of which sort a kid is -/
def ofK (k : Int) (x : Nat) : Int := if k = 12 ∧ x = 2 then 2 else sortK k

mutual
/-- term.right -/
def rightT : TT → Int → Bool
  | .node k i j n ks, want => !(want != 0 && sortK k != 0 && sortK k != want) && (ks.length : Int) == kidsK k n && numbersB k i j n && rightTs k 0 ks
def rightTs (k : Int) (x : Nat) : List TT → Bool
  | [] => true
  | t :: ts => rightT t (ofK k x) && rightTs k (x + 1) ts
end
mutual
/-- term.free -/
def freeT : TT → Int → Int
  | .node k i _ _ ks, deep => if k = 2 then max (i + 1 - deep) 0 else freeTs k 0 ks deep
def freeTs (k : Int) (x : Nat) : List TT → Int → Int
  | [], _ => 0
  | t :: ts, deep => max (freeT t (deep + bindsK k x)) (freeTs k (x + 1) ts deep)
end

def markWords : List (List UInt8) := [[115, 111, 114, 116], [], [112, 105], [108, 97, 109], [97, 112, 112], [115, 105, 103], [112, 97, 105, 114], [102, 115, 116], [115, 110, 100], [101, 113], [114, 101, 102, 108], [116, 114], [80, 105], [76, 97, 109], [65, 112, 112], [83, 105, 103], [80, 97, 105, 114], [70, 115, 116], [83, 110, 100], [69, 113], [82, 101, 102, 108], [74], [117, 115, 101]]
/-- a list's word -/
def wordK (k : Int) : List UInt8 := markWords.getD (k - 1).toNat []
def symWords : List (List UInt8) := [[117, 105, 112], [102, 117, 110, 101, 120, 116], [115, 121, 109], [116, 114, 97, 110, 115], [116, 114], [104, 101, 116], [116, 121, 112], [116, 114, 104], [104, 112], [104, 50, 101], [101, 50, 104], [114, 112], [99, 112, 105], [99, 115, 105, 103], [99, 108, 97, 109], [99, 97, 112, 112], [99, 112, 97, 105, 114], [99, 102, 115, 116], [99, 115, 110, 100], [99, 101, 113], [99, 114, 101, 102, 108]]
/-- read.Name -/
def symK (n : Int) : List UInt8 := if n < 1 ∨ 21 < n then [] else symWords.getD (n - 1).toNat []
/-- how many levels stand behind a word -/
def levelsK (k : Int) : Nat := if k = 1 ∨ k = 10 ∨ k = 11 ∨ k = 12 then 1 else if 3 ≤ k ∧ k ≤ 9 ∨ k = 23 then 2 else 0
def nameL (n : Int) : List UInt8 := 118 :: Lib.itoa n
/-- what stands ahead of a term's kids -/
def headT (k i j n : Int) (m : Int) : List UInt8 :=
  40 :: (wordK k ++ (if k = 23 then 32 :: symK n else []) ++ (if 0 < levelsK k then 32 :: Lib.itoa i else []) ++ (if 1 < levelsK k then 32 :: Lib.itoa j else []) ++ (if bindsK k 1 = 1 then 32 :: nameL m else []))

mutual
/-- write.write -/
def writeT : TT → Int → List UInt8
  | .node k i j n ks, m => if k = 2 then nameL (m - 1 - i) else headT k i j n m ++ writeTs k m 0 ks ++ [41]
def writeTs (k m : Int) (x : Nat) : List TT → List UInt8
  | [] => []
  | t :: ts => (if k = 22 ∧ x = 2 then 32 :: (nameL m ++ 32 :: nameL (m + 1)) else []) ++ 32 :: (writeT t (m + bindsK k x) ++ writeTs k m (x + 1) ts)
end
end Go.Proofs.YtfklmcmoackepaaDoor

namespace Go.Proofs.YtfklmcmoackepaaDoor
open Go.RowKit

/-! ### right, as the document says -/
mutual
def plainT : TT → Bool
  | .node k i j n ks => (k == 1 || k == 2 || (decide (13 ≤ k) && decide (k ≤ 23))) && (ks.length : Int) == kidsK k n && numbersB k i j n && plainTs ks
def plainTs : List TT → Bool
  | [] => true
  | t :: ts => plainT t && plainTs ts
end
mutual
def markedT : TT → Bool
  | .node k i j n ks => decide (1 ≤ k) && decide (k ≤ 12) && (ks.length : Int) == kidsK k n && numbersB k i j n && markedTs k 0 ks
def markedTs (k : Int) (x : Nat) : List TT → Bool
  | [] => true
  | t :: ts => (if k = 12 ∧ x = 2 then plainT t else markedT t) && markedTs k (x + 1) ts
end

theorem kidsK_in {k n : Int} {l : Nat} (h : (l : Int) = kidsK k n) : 1 ≤ k ∧ k ≤ 23 := by
  unfold kidsK at h
  repeat (split at h; omega)
  omega
theorem sortK_of {k : Int} (_h1 : 1 ≤ k) (_h2 : k ≤ 23) : sortK k = if k = 1 ∨ k = 2 then 0 else if k ≤ 12 then 1 else 2 := rfl

mutual
theorem right_plain : ∀ (t : TT), rightT t 2 = plainT t
  | .node k i j n ks => by
    by_cases hl : (ks.length : Int) = kidsK k n
    · obtain ⟨h1, h2⟩ := kidsK_in hl
      have hb : ((ks.length : Int) == kidsK k n) = true := by simpa using hl
      have hs : (!((2 : Int) != 0 && sortK k != 0 && sortK k != 2)) = (k == 1 || k == 2 || (decide (13 ≤ k) && decide (k ≤ 23))) := by
        unfold sortK
        by_cases h3 : k = 1 ∨ k = 2
        · rw [if_pos h3]; rcases h3 with rfl | rfl <;> simp
        · rw [if_neg h3]
          by_cases h4 : k ≤ 12
          · rw [if_pos h4]; simp; omega
          · rw [if_neg h4]; simp; omega
      simp only [rightT, plainT, hb, hs, Bool.and_true]
      by_cases h3 : k = 1 ∨ k = 2 ∨ (13 ≤ k ∧ k ≤ 23)
      · have := right_plains k 0 ks (by
          intro x t hx
          unfold ofK sortK
          rcases h3 with rfl | rfl | ⟨h4, h5⟩
          · have : ks.length = 0 := by rw [show kidsK 1 n = 0 from rfl] at hl; omega
            rw [List.eq_nil_of_length_eq_zero this] at hx; simp at hx
          · have : ks.length = 0 := by rw [show kidsK 2 n = 0 from rfl] at hl; omega
            rw [List.eq_nil_of_length_eq_zero this] at hx; simp at hx
          · rw [if_neg (by omega), if_neg (by omega), if_neg (by omega)])
        rw [this]
      · have hf : (k == 1 || k == 2 || (decide (13 ≤ k) && decide (k ≤ 23))) = false := by simp; omega
        rw [hf]; simp
    · have hb : ((ks.length : Int) == kidsK k n) = false := by simpa using hl
      simp [rightT, plainT, hb]
theorem right_plains : ∀ (k : Int) (x : Nat) (ks : List TT), (∀ y t, ks[y]? = some t → ofK k (x + y) = 2) → rightTs k x ks = plainTs ks
  | _, _, [], _ => rfl
  | k, x, t :: ts, h => by
    have h0 := h 0 t rfl
    rw [Nat.add_zero] at h0
    simp only [rightTs, plainTs, h0, right_plain t]
    rw [right_plains k (x + 1) ts (fun y u hy => by have := h (y + 1) u (by simpa using hy); rw [← this]; congr 1; omega)]
end
mutual
theorem right_marked : ∀ (t : TT), rightT t 1 = markedT t
  | .node k i j n ks => by
    by_cases hl : (ks.length : Int) = kidsK k n
    · obtain ⟨h1, h2⟩ := kidsK_in hl
      have hb : ((ks.length : Int) == kidsK k n) = true := by simpa using hl
      have hs : (!((1 : Int) != 0 && sortK k != 0 && sortK k != 1)) = (decide (1 ≤ k) && decide (k ≤ 12)) := by
        unfold sortK
        by_cases h3 : k = 1 ∨ k = 2
        · rw [if_pos h3]; rcases h3 with rfl | rfl <;> simp
        · rw [if_neg h3]
          by_cases h4 : k ≤ 12
          · rw [if_pos h4]; simp; omega
          · rw [if_neg h4]; simp; omega
      simp only [rightT, markedT, hb, hs, Bool.and_true]
      by_cases h3 : k ≤ 12
      · rw [right_markeds k 0 ks (by
          intro x t hx
          unfold ofK sortK
          by_cases h4 : k = 1 ∨ k = 2
          · have : ks.length = 0 := by
              rcases h4 with rfl | rfl
              · rw [show kidsK 1 n = 0 from rfl] at hl; omega
              · rw [show kidsK 2 n = 0 from rfl] at hl; omega
            rw [List.eq_nil_of_length_eq_zero this] at hx; simp at hx
          · rw [if_neg h4, if_pos h3])]
      · have hf : (decide (1 ≤ k) && decide (k ≤ 12)) = false := by simp; omega
        rw [hf]; simp
    · have hb : ((ks.length : Int) == kidsK k n) = false := by simpa using hl
      simp [rightT, markedT, hb]
theorem right_markeds : ∀ (k : Int) (x : Nat) (ks : List TT), (∀ y t, ks[y]? = some t → ofK k (x + y) = if k = 12 ∧ x + y = 2 then 2 else 1) → rightTs k x ks = markedTs k x ks
  | _, _, [], _ => rfl
  | k, x, t :: ts, h => by
    have h0 := h 0 t rfl
    rw [Nat.add_zero] at h0
    simp only [rightTs, markedTs, h0]
    rw [right_markeds k (x + 1) ts (fun y u hy => by
      have := h (y + 1) u (by simpa using hy)
      rw [show x + (y + 1) = x + 1 + y by omega] at this
      exact this)]
    by_cases hc : k = 12 ∧ x = 2
    · rw [if_pos hc, if_pos hc, right_plain t]
    · rw [if_neg hc, if_neg hc, right_marked t]
end
theorem right_either : ∀ (t : TT), rightT t 0 = (markedT t || plainT t)
  | .node k i j n ks => by
    rw [← right_marked, ← right_plain]
    by_cases hl : (ks.length : Int) = kidsK k n
    · obtain ⟨h1, h2⟩ := kidsK_in hl
      have hb : ((ks.length : Int) == kidsK k n) = true := by simpa using hl
      simp only [rightT, hb, Bool.and_true]
      have e0 : (!((0 : Int) != 0 && sortK k != 0 && sortK k != 0)) = true := by simp
      rw [e0]
      unfold sortK
      by_cases h3 : k = 1 ∨ k = 2
      · rw [if_pos h3]; simp
      · rw [if_neg h3]
        by_cases h4 : k ≤ 12
        · rw [if_pos h4]; simp
        · rw [if_neg h4]; simp
    · have hb : ((ks.length : Int) == kidsK k n) = false := by simpa using hl
      simp [rightT, hb]

/-! ### free, as the document says -/
mutual
def freeR : TT → Int
  | .node k i _ _ ks => if k = 2 then i + 1 else freeRs k 0 ks
def freeRs (k : Int) (x : Nat) : List TT → Int
  | [] => 0
  | t :: ts => max (freeR t - bindsK k x) (freeRs k (x + 1) ts)
end
theorem bindsK_in (k x : Int) : 0 ≤ bindsK k x ∧ bindsK k x ≤ 2 := by
  unfold bindsK
  repeat (split; omega)
  omega
mutual
theorem free_is : ∀ (t : TT) (deep : Int), 0 ≤ deep → freeT t deep = max (freeR t - deep) 0
  | .node k i j n ks, deep, h => by
    simp only [freeT, freeR]
    by_cases hk : k = 2
    · rw [if_pos hk, if_pos hk]
    · rw [if_neg hk, if_neg hk, frees_is k 0 ks deep h]
theorem frees_is : ∀ (k : Int) (x : Nat) (ks : List TT) (deep : Int), 0 ≤ deep → freeTs k x ks deep = max (freeRs k x ks - deep) 0
  | _, _, [], deep, h => by simp only [freeTs, freeRs]; omega
  | k, x, t :: ts, deep, h => by
    have hb := bindsK_in k x
    simp only [freeTs, freeRs, free_is t (deep + bindsK k x) (by omega), frees_is k (x + 1) ts deep h]
    omega
end

/-! ### texts tell terms apart -/
/-- what may stand behind a word -/
def Stop (r : List UInt8) : Prop := r = [] ∨ ∃ c z, r = c :: z ∧ (c = 32 ∨ c = 41)
def Free2 (u : List UInt8) : Prop := ∀ c ∈ u, c ≠ 32 ∧ c ≠ 41
theorem word_split : ∀ {u v r s : List UInt8}, Free2 u → Free2 v → Stop r → Stop s → u ++ r = v ++ s → u = v ∧ r = s
  | [], [], _, _, _, _, _, _, h => ⟨rfl, by simpa using h⟩
  | [], c :: v, r, s, _, hv, hr, _, h => by
    have hc := hv c (by simp)
    rcases hr with rfl | ⟨d, z, rfl, hd⟩
    · simp at h
    · simp only [List.nil_append, List.cons_append, List.cons.injEq] at h
      obtain ⟨rfl, _⟩ := h
      rcases hd with rfl | rfl
      · exact absurd rfl hc.1
      · exact absurd rfl hc.2
  | c :: u, [], r, s, hu, _, _, hs, h => by
    have hc := hu c (by simp)
    rcases hs with rfl | ⟨d, z, rfl, hd⟩
    · simp at h
    · simp only [List.nil_append, List.cons_append, List.cons.injEq] at h
      obtain ⟨rfl, _⟩ := h
      rcases hd with rfl | rfl
      · exact absurd rfl hc.1
      · exact absurd rfl hc.2
  | c :: u, d :: v, r, s, hu, hv, hr, hs, h => by
    simp only [List.cons_append, List.cons.injEq] at h
    obtain ⟨rfl, h⟩ := h
    obtain ⟨h1, h2⟩ := word_split (fun x hx => hu x (by simp [hx])) (fun x hx => hv x (by simp [hx])) hr hs h
    exact ⟨by rw [h1], h2⟩
end Go.Proofs.YtfklmcmoackepaaDoor

namespace Go.Proofs.YtfklmcmoackepaaDoor
open Go.RowKit

theorem free2_cons {c : UInt8} {u : List UInt8} (h1 : c ≠ 32 ∧ c ≠ 41) (h2 : Free2 u) : Free2 (c :: u) := by
  intro d hd
  rcases List.mem_cons.1 hd with rfl | hd
  · exact h1
  · exact h2 d hd
theorem digs_free2 {u : List UInt8} (h : digs u = true) : Free2 u := by
  intro c hc
  have h1 := List.all_eq_true.1 h c hc
  refine ⟨?_, ?_⟩ <;> (intro he; subst he; revert h1; decide)
theorem itoa_free2 (n : Int) : Free2 (Lib.itoa n) := by
  by_cases hn : n < 0
  · obtain ⟨u, hu, rfl⟩ : ∃ u : Nat, 1 ≤ u ∧ n = -(u : Int) := ⟨n.natAbs, by omega, by omega⟩
    rw [Lib.itoa_neg u hu]
    exact free2_cons (by decide) (digs_free2 (digs_dec u).1)
  · obtain ⟨u, rfl⟩ : ∃ u : Nat, n = (u : Int) := ⟨n.toNat, by omega⟩
    rw [Lib.itoa_nonneg u]
    exact digs_free2 (digs_dec u).1
theorem name_free2 (n : Int) : Free2 (nameL n) := free2_cons (by decide) (itoa_free2 n)
theorem name_inj {a b : Int} (h : nameL a = nameL b) : a = b := by
  unfold nameL at h
  exact itoa_inj (List.cons.inj h).2

theorem words_free2 : ∀ u ∈ markWords, Free2 u := by
  have h : ∀ u ∈ markWords, u.all (fun c => c != 32 && c != 41) = true := by decide
  intro u hu c hc
  have := List.all_eq_true.1 (h u hu) c hc
  simpa using this
theorem syms_free2 : ∀ u ∈ symWords, Free2 u := by
  have h : ∀ u ∈ symWords, u.all (fun c => c != 32 && c != 41) = true := by decide
  intro u hu c hc
  have := List.all_eq_true.1 (h u hu) c hc
  simpa using this
theorem getD_free2 {l : List (List UInt8)} (h : ∀ u ∈ l, Free2 u) (n : Nat) : Free2 (l.getD n []) := by
  rw [List.getD_eq_getElem?_getD]
  cases hq : l[n]? with
  | none => intro c hc; simp at hc
  | some u => exact h u (List.mem_of_getElem? hq)
theorem wordK_free2 (k : Int) : Free2 (wordK k) := getD_free2 words_free2 _
theorem symK_free2 (n : Int) : Free2 (symK n) := by
  unfold symK
  split
  · intro c hc; simp at hc
  · exact getD_free2 syms_free2 _
theorem wordK_inj {k k' : Int} (h1 : 1 ≤ k) (h2 : k ≤ 23) (h3 : k ≠ 2) (h1' : 1 ≤ k') (h2' : k' ≤ 23) (h3' : k' ≠ 2) (h : wordK k = wordK k') : k = k' := by
  have key : ∀ a b : Fin 23, a.val ≠ 1 → b.val ≠ 1 → markWords.getD a.val [] = markWords.getD b.val [] → a.val = b.val := by decide +kernel
  have := key ⟨(k - 1).toNat, by omega⟩ ⟨(k' - 1).toNat, by omega⟩ (show (k - 1).toNat ≠ 1 by omega) (show (k' - 1).toNat ≠ 1 by omega) h
  dsimp only at this
  omega
theorem symK_inj {n n' : Int} (h1 : 1 ≤ n) (h2 : n ≤ 21) (h1' : 1 ≤ n') (h2' : n' ≤ 21) (h : symK n = symK n') : n = n' := by
  have key : ∀ a b : Fin 21, symWords.getD a.val [] = symWords.getD b.val [] → a.val = b.val := by decide +kernel
  unfold symK at h
  rw [if_neg (by omega), if_neg (by omega)] at h
  have := key ⟨(n - 1).toNat, by omega⟩ ⟨(n' - 1).toNat, by omega⟩ h
  dsimp only at this
  omega
theorem takesK_in {n : Int} {l : Nat} (h : (l : Int) = takesK n) : 1 ≤ n ∧ n ≤ 21 := by
  unfold takesK at h
  repeat (split at h; omega)
  omega

theorem stop_opt (c : Prop) [Decidable c] (X : List UInt8) {R : List UInt8} (h : Stop R) : Stop ((if c then 32 :: X else []) ++ R) := by
  by_cases hc : c
  · rw [if_pos hc]; exact .inr ⟨32, X ++ R, rfl, .inl rfl⟩
  · rw [if_neg hc]; exact h
theorem opt_split {c : Prop} [Decidable c] {X Y R S : List UInt8} (hx : Free2 X) (hy : Free2 Y) (hr : Stop R) (hs : Stop S) (h : (if c then 32 :: X else []) ++ R = (if c then 32 :: Y else []) ++ S) : (c → X = Y) ∧ R = S := by
  by_cases hc : c
  · rw [if_pos hc, if_pos hc] at h
    obtain ⟨h1, h2⟩ := word_split hx hy hr hs (List.cons.inj h).2
    exact ⟨fun _ => h1, h2⟩
  · rw [if_neg hc, if_neg hc] at h
    exact ⟨fun h => absurd h hc, h⟩
theorem stop_close (r : List UInt8) : Stop (41 :: r) := .inr ⟨41, r, rfl, .inr rfl⟩
theorem stop_writes (k m : Int) (x : Nat) (ks : List TT) (r : List UInt8) : Stop (writeTs k m x ks ++ 41 :: r) := by
  cases ks with
  | nil => exact stop_close r
  | cons t ts =>
    simp only [writeTs]
    by_cases hc : k = 22 ∧ x = 2
    · rw [if_pos hc]; exact .inr ⟨32, _, rfl, .inl rfl⟩
    · rw [if_neg hc]; exact .inr ⟨32, _, rfl, .inl rfl⟩

theorem write_open {k i j n m : Int} {ks : List TT} (hk : k ≠ 2) (r : List UInt8) : writeT (.node k i j n ks) m ++ r = 40 :: (wordK k ++ ((if k = 23 then 32 :: symK n else []) ++ ((if 0 < levelsK k then 32 :: Lib.itoa i else []) ++ ((if 1 < levelsK k then 32 :: Lib.itoa j else []) ++ ((if bindsK k 1 = 1 then 32 :: nameL m else []) ++ (writeTs k m 0 ks ++ 41 :: r)))))) := by
  simp only [writeT, if_neg hk, headT, List.cons_append, List.append_assoc, List.nil_append]

theorem rightT_parts {k i j n : Int} {ks : List TT} {want : Int} (h : rightT (.node k i j n ks) want = true) : (ks.length : Int) = kidsK k n ∧ numbersB k i j n = true ∧ rightTs k 0 ks = true := by
  simp only [rightT, Bool.and_eq_true, beq_iff_eq] at h
  exact ⟨h.1.1.2, h.1.2, h.2⟩

/-- what a kind does not name is nought -/
theorem numbers_zero {k i j n : Int} (h1 : 1 ≤ k) (h2 : k ≤ 23) (h : numbersB k i j n = true) : (k ≠ 23 → n = 0) ∧ (k ≠ 2 → ¬ 0 < levelsK k → i = 0) ∧ (¬ 1 < levelsK k → j = 0) := by
  unfold numbersB at h
  unfold levelsK
  split at h
  · rename_i hk
    simp only [Bool.and_eq_true, beq_iff_eq] at h
    rw [if_pos hk]
    exact ⟨fun _ => h.2, fun _ h => absurd (by omega) h, fun _ => h.1.2⟩
  · rename_i hk
    rw [if_neg hk]
    split at h
    · rename_i hk2
      simp only [Bool.and_eq_true, beq_iff_eq] at h
      exact ⟨fun _ => h.2, fun h3 => absurd hk2 h3, fun _ => h.1.2⟩
    · split at h
      · rename_i hk3
        simp only [Bool.and_eq_true, beq_iff_eq] at h
        rw [if_pos (by omega)]
        exact ⟨fun _ => h.2, fun _ h => absurd (by omega) h, fun h => absurd (by omega) h⟩
      · split at h
        · rename_i hk4
          rw [if_pos (by omega)]
          exact ⟨fun h => absurd hk4 h, fun _ h => absurd (by omega) h, fun h => absurd (by omega) h⟩
        · simp only [Bool.and_eq_true, beq_iff_eq] at h
          exact ⟨fun _ => h.2, fun _ _ => h.1.1, fun _ => h.1.2⟩

theorem writes_inj (N : Nat) (ih : ∀ (a b : TT) (m w w' : Int) (r s : List UInt8), SizeOf.sizeOf a < N → rightT a w = true → rightT b w' = true → Stop r → Stop s → writeT a m ++ r = writeT b m ++ s → a = b ∧ r = s) :
    ∀ (k m : Int) (x : Nat) (ks ls : List TT) (r s : List UInt8), (∀ t ∈ ks, SizeOf.sizeOf t < N) → ks.length = ls.length → rightTs k x ks = true → rightTs k x ls = true → writeTs k m x ks ++ 41 :: r = writeTs k m x ls ++ 41 :: s → ks = ls ∧ r = s
  | _, _, _, [], [], r, s, _, _, _, _, h => ⟨rfl, by simpa [writeTs] using h⟩
  | _, _, _, [], _ :: _, _, _, _, hl, _, _, _ => by simp at hl
  | _, _, _, _ :: _, [], _, _, _, hl, _, _, _ => by simp at hl
  | k, m, x, t :: ts, l :: ls, r, s, hN, hl, h1, h2, h => by
    simp only [rightTs, Bool.and_eq_true] at h1 h2
    simp only [writeTs, List.append_assoc, List.cons_append] at h
    have h3 := List.append_cancel_left h
    obtain ⟨rfl, h5⟩ := ih t l (m + bindsK k x) _ _ _ _ (hN t (by simp)) h1.1 h2.1 (stop_writes _ _ _ _ _) (stop_writes _ _ _ _ _) (List.cons.inj h3).2
    obtain ⟨rfl, rfl⟩ := writes_inj N ih k m (x + 1) ts ls r s (fun u hu => hN u (by simp [hu])) (by simpa using hl) h1.2 h2.2 h5
    exact ⟨rfl, rfl⟩

theorem write_inj : ∀ (N : Nat) (a b : TT) (m w w' : Int) (r s : List UInt8), SizeOf.sizeOf a < N → rightT a w = true → rightT b w' = true → Stop r → Stop s → writeT a m ++ r = writeT b m ++ s → a = b ∧ r = s
  | 0, _, _, _, _, _, _, _, h, _, _, _, _, _ => absurd h (Nat.not_lt_zero _)
  | N + 1, .node k i j n ks, .node k' i' j' n' ks', m, w, w', r, s, hN, ha, hb, hr, hs, h => by
    obtain ⟨a1, a2, a3⟩ := rightT_parts ha
    obtain ⟨b1, b2, b3⟩ := rightT_parts hb
    obtain ⟨k1, k2⟩ := kidsK_in a1
    obtain ⟨l1, l2⟩ := kidsK_in b1
    obtain ⟨z1, z2, z3⟩ := numbers_zero k1 k2 a2
    obtain ⟨y1, y2, y3⟩ := numbers_zero l1 l2 b2
    by_cases hk : k = 2
    · subst hk
      by_cases hk' : k' = 2
      · subst hk'
        simp only [writeT, if_true] at h
        obtain ⟨h1, h2⟩ := word_split (name_free2 _) (name_free2 _) hr hs h
        have h3 := name_inj h1
        have e1 : ks = [] := List.eq_nil_of_length_eq_zero (by rw [show kidsK 2 n = 0 from rfl] at a1; omega)
        have e2 : ks' = [] := List.eq_nil_of_length_eq_zero (by rw [show kidsK 2 n' = 0 from rfl] at b1; omega)
        have e3 := z1 (by omega)
        have e4 := y1 (by omega)
        have e5 := z3 (by decide)
        have e6 := y3 (by decide)
        subst e1 e2 e3 e4 e5 e6
        refine ⟨?_, h2⟩
        have : i = i' := by omega
        rw [this]
      · rw [write_open hk'] at h
        simp only [writeT, if_true, nameL, List.cons_append, List.cons.injEq] at h
        exact absurd h.1 (by decide)
    · by_cases hk' : k' = 2
      · subst hk'
        rw [write_open hk] at h
        simp only [writeT, if_true, nameL, List.cons_append, List.cons.injEq] at h
        exact absurd h.1 (by decide)
      · rw [write_open hk, write_open hk'] at h
        have h0 := (List.cons.inj h).2
        have st : ∀ (k i j n : Int) (ks : List TT) (r : List UInt8), Stop ((if bindsK k 1 = 1 then 32 :: nameL m else []) ++ (writeTs k m 0 ks ++ 41 :: r)) := fun k i j n ks r => stop_opt _ _ (stop_writes _ _ _ _ _)
        obtain ⟨hw, h1⟩ := word_split (wordK_free2 k) (wordK_free2 k') (stop_opt _ _ (stop_opt _ _ (stop_opt _ _ (stop_opt _ _ (stop_writes _ _ _ _ _))))) (stop_opt _ _ (stop_opt _ _ (stop_opt _ _ (stop_opt _ _ (stop_writes _ _ _ _ _))))) h0
        obtain rfl := wordK_inj k1 k2 hk l1 l2 hk' hw
        obtain ⟨hn, h2⟩ := opt_split (symK_free2 n) (symK_free2 n') (stop_opt _ _ (stop_opt _ _ (stop_opt _ _ (stop_writes _ _ _ _ _)))) (stop_opt _ _ (stop_opt _ _ (stop_opt _ _ (stop_writes _ _ _ _ _)))) h1
        obtain ⟨hi, h3⟩ := opt_split (itoa_free2 i) (itoa_free2 i') (stop_opt _ _ (stop_opt _ _ (stop_writes _ _ _ _ _))) (stop_opt _ _ (stop_opt _ _ (stop_writes _ _ _ _ _))) h2
        obtain ⟨hj, h4⟩ := opt_split (itoa_free2 j) (itoa_free2 j') (stop_opt _ _ (stop_writes _ _ _ _ _)) (stop_opt _ _ (stop_writes _ _ _ _ _)) h3
        obtain ⟨_, h5⟩ := opt_split (name_free2 m) (name_free2 m) (stop_writes _ _ _ _ _) (stop_writes _ _ _ _ _) h4
        have en : n = n' := by
          by_cases h23 : k = 23
          · subst h23
            have t1 := takesK_in (l := ks.length) a1
            have t2 := takesK_in (l := ks'.length) b1
            exact symK_inj t1.1 t1.2 t2.1 t2.2 (hn rfl)
          · rw [z1 h23, y1 h23]
        have ei : i = i' := by
          by_cases hl : 0 < levelsK k
          · exact itoa_inj (hi hl)
          · rw [z2 hk hl, y2 hk hl]
        have ej : j = j' := by
          by_cases hl : 1 < levelsK k
          · exact itoa_inj (hj hl)
          · rw [z3 hl, y3 hl]
        subst en ei ej
        have hsz : ∀ t ∈ ks, SizeOf.sizeOf t < N := fun t ht => by
          have := List.sizeOf_lt_of_mem ht
          simp at hN
          omega
        obtain ⟨rfl, rfl⟩ := writes_inj N (write_inj N) k m 0 ks ks' r s hsz (by omega) a3 b3 h5
        exact ⟨rfl, rfl⟩
theorem writeT_inj {a b : TT} {m : Int} (ha : rightT a 0 = true) (hb : rightT b 0 = true) (h : writeT a m = writeT b m) : a = b :=
  (write_inj _ a b m 0 0 [] [] (Nat.lt_succ_self _) ha hb (.inl rfl) (.inl rfl) (by simpa using h)).1
end Go.Proofs.YtfklmcmoackepaaDoor

namespace Go.Proofs.YtfklmcmoackepaaDoor
open Go.RowKit

set_option maxHeartbeats 4000000 in
set_option maxRecDepth 100000 in
theorem takes_any (n : Int) (w : World) : Calls Tryd.prog 66 #[.int .i64 n] w fun e w' => e = .returned (.int .i64 (takesK n)) ∧ w = w' := by
  by_cases h : 1 ≤ n ∧ n ≤ 21
  · have h2 : n = 1 ∨ n = 2 ∨ n = 3 ∨ n = 4 ∨ n = 5 ∨ n = 6 ∨ n = 7 ∨ n = 8 ∨ n = 9 ∨ n = 10 ∨ n = 11 ∨ n = 12 ∨ n = 13 ∨ n = 14 ∨ n = 15 ∨ n = 16 ∨ n = 17 ∨ n = 18 ∨ n = 19 ∨ n = 20 ∨ n = 21 := by omega
    clear h
    rcases h2 with rfl | rfl | rfl | rfl | rfl | rfl | rfl | rfl | rfl | rfl | rfl | rfl | rfl | rfl | rfl | rfl | rfl | rfl | rfl | rfl | rfl
    all_goals (go_enter Tryd.func66, Tryd.ntmps66; go_wp2; go_ret; exact ⟨rfl, rfl⟩)
  · have HV : Hid (takesK n = -1) := Lib.hid (by
      unfold takesK
      repeat rw [if_neg (by omega)])
    have e1 : (n == 1) = false := by simp; omega
    have e2 : (n == 2) = false := by simp; omega
    have e3 : (n == 3) = false := by simp; omega
    have e4 : (n == 4) = false := by simp; omega
    have e5 : (n == 5) = false := by simp; omega
    have e6 : (n == 6) = false := by simp; omega
    have e7 : (n == 7) = false := by simp; omega
    have e8 : (n == 8) = false := by simp; omega
    have e9 : (n == 9) = false := by simp; omega
    have e10 : (n == 10) = false := by simp; omega
    have e11 : (n == 11) = false := by simp; omega
    have e12 : (n == 12) = false := by simp; omega
    have e13 : (n == 13) = false := by simp; omega
    have e14 : (n == 14) = false := by simp; omega
    have e15 : (n == 15) = false := by simp; omega
    have e16 : (n == 16) = false := by simp; omega
    have e17 : (n == 17) = false := by simp; omega
    have e18 : (n == 18) = false := by simp; omega
    have e19 : (n == 19) = false := by simp; omega
    have e20 : (n == 20) = false := by simp; omega
    have e21 : (n == 21) = false := by simp; omega
    clear h
    go_enter Tryd.func66, Tryd.ntmps66
    go_wp2
    go_ret
    exact ⟨by rw [HV.out]; rfl, rfl⟩

set_option maxHeartbeats 4000000 in
set_option maxRecDepth 100000 in
theorem kidsK_any (k n : Int) (w : World) : Calls Tryd.prog 64 #[.int .i64 k, .int .i64 n] w fun e w' => e = .returned (.int .i64 (kidsK k n)) ∧ w = w' := by
  by_cases h : 1 ≤ k ∧ k ≤ 23
  · by_cases h23 : k = 23
    · subst h23
      go_enter Tryd.func64, Tryd.ntmps64
      go_wp2_with fail
      refine (takes_any n w).mono ?_
      rintro e w1 ⟨rfl, rfl⟩
      go_wp2
      go_ret
      exact ⟨rfl, rfl⟩
    · have h2 : k = 1 ∨ k = 2 ∨ k = 3 ∨ k = 4 ∨ k = 5 ∨ k = 6 ∨ k = 7 ∨ k = 8 ∨ k = 9 ∨ k = 10 ∨ k = 11 ∨ k = 12 ∨ k = 13 ∨ k = 14 ∨ k = 15 ∨ k = 16 ∨ k = 17 ∨ k = 18 ∨ k = 19 ∨ k = 20 ∨ k = 21 ∨ k = 22 := by omega
      clear h h23
      rcases h2 with rfl | rfl | rfl | rfl | rfl | rfl | rfl | rfl | rfl | rfl | rfl | rfl | rfl | rfl | rfl | rfl | rfl | rfl | rfl | rfl | rfl | rfl
      all_goals (go_enter Tryd.func64, Tryd.ntmps64; go_wp2; go_ret; exact ⟨rfl, rfl⟩)
  · have HV : Hid (kidsK k n = -1) := Lib.hid (by
      unfold kidsK
      repeat rw [if_neg (by omega)])
    have e1 : (k == 1) = false := by simp; omega
    have e2 : (k == 2) = false := by simp; omega
    have e3 : (k == 3) = false := by simp; omega
    have e4 : (k == 4) = false := by simp; omega
    have e5 : (k == 5) = false := by simp; omega
    have e6 : (k == 6) = false := by simp; omega
    have e7 : (k == 7) = false := by simp; omega
    have e8 : (k == 8) = false := by simp; omega
    have e9 : (k == 9) = false := by simp; omega
    have e10 : (k == 10) = false := by simp; omega
    have e11 : (k == 11) = false := by simp; omega
    have e12 : (k == 12) = false := by simp; omega
    have e13 : (k == 13) = false := by simp; omega
    have e14 : (k == 14) = false := by simp; omega
    have e15 : (k == 15) = false := by simp; omega
    have e16 : (k == 16) = false := by simp; omega
    have e17 : (k == 17) = false := by simp; omega
    have e18 : (k == 18) = false := by simp; omega
    have e19 : (k == 19) = false := by simp; omega
    have e20 : (k == 20) = false := by simp; omega
    have e21 : (k == 21) = false := by simp; omega
    have e22 : (k == 22) = false := by simp; omega
    have e23 : (k == 23) = false := by simp; omega
    clear h
    go_enter Tryd.func64, Tryd.ntmps64
    go_wp2
    go_ret
    exact ⟨by rw [HV.out]; rfl, rfl⟩


set_option maxHeartbeats 4000000 in
set_option maxRecDepth 100000 in
theorem rbinds_any (k x : Int) (w : World) : Calls Tryd.prog 42 #[.int .i64 k, .int .i64 x] w fun e w' => e = .returned (.int .i64 (bindsK k x)) ∧ w = w' := by
  have hx : x = 1 ∨ x = 2 ∨ ((x == 1) = false ∧ (x == 2) = false ∧ x ≠ 1 ∧ x ≠ 2) := by
    by_cases h1 : x = 1
    · exact .inl h1
    · by_cases h2 : x = 2
      · exact .inr (.inl h2)
      · exact .inr (.inr ⟨by simp [h1], by simp [h2], h1, h2⟩)
  by_cases h : 3 ≤ k ∧ k ≤ 22
  · have h2 : k = 3 ∨ k = 4 ∨ k = 5 ∨ k = 6 ∨ k = 7 ∨ k = 8 ∨ k = 9 ∨ k = 10 ∨ k = 11 ∨ k = 12 ∨ k = 13 ∨ k = 14 ∨ k = 15 ∨ k = 16 ∨ k = 17 ∨ k = 18 ∨ k = 19 ∨ k = 20 ∨ k = 21 ∨ k = 22 := by omega
    clear h
    rcases hx with rfl | rfl | ⟨x1, x2, x3, x4⟩
    · rcases h2 with rfl | rfl | rfl | rfl | rfl | rfl | rfl | rfl | rfl | rfl | rfl | rfl | rfl | rfl | rfl | rfl | rfl | rfl | rfl | rfl
      all_goals (go_enter Tryd.func42, Tryd.ntmps42; go_wp2; go_ret; exact ⟨rfl, rfl⟩)
    · rcases h2 with rfl | rfl | rfl | rfl | rfl | rfl | rfl | rfl | rfl | rfl | rfl | rfl | rfl | rfl | rfl | rfl | rfl | rfl | rfl | rfl
      all_goals (go_enter Tryd.func42, Tryd.ntmps42; go_wp2; go_ret; exact ⟨rfl, rfl⟩)
    · have HV : Hid (∀ k, bindsK k x = 0) := Lib.hid (fun k => by
        unfold bindsK
        repeat rw [if_neg (by omega)])
      clear x3 x4
      rcases h2 with rfl | rfl | rfl | rfl | rfl | rfl | rfl | rfl | rfl | rfl | rfl | rfl | rfl | rfl | rfl | rfl | rfl | rfl | rfl | rfl
      all_goals (go_enter Tryd.func42, Tryd.ntmps42; go_wp2; go_ret; exact ⟨by rw [HV.out]; rfl, rfl⟩)
  · have HV : Hid (bindsK k x = 0) := Lib.hid (by
      unfold bindsK
      repeat rw [if_neg (by omega)])
    have e3 : (k == 3) = false := by simp; omega
    have e4 : (k == 4) = false := by simp; omega
    have e5 : (k == 5) = false := by simp; omega
    have e6 : (k == 6) = false := by simp; omega
    have e7 : (k == 7) = false := by simp; omega
    have e8 : (k == 8) = false := by simp; omega
    have e9 : (k == 9) = false := by simp; omega
    have e13 : (k == 13) = false := by simp; omega
    have e14 : (k == 14) = false := by simp; omega
    have e16 : (k == 16) = false := by simp; omega
    have e17 : (k == 17) = false := by simp; omega
    have e22 : (k == 22) = false := by simp; omega
    clear h hx
    go_enter Tryd.func42, Tryd.ntmps42
    go_wp2
    go_ret
    exact ⟨by rw [HV.out]; rfl, rfl⟩



set_option maxHeartbeats 4000000 in
set_option maxRecDepth 100000 in
theorem rlevel_any (n : Int) (w : World) : Calls Tryd.prog 55 #[.int .i64 n] w fun e w' => e = .returned (.bool (levelB n)) ∧ w = w' := by
  have HV : Hid (levelB n = (decide (0 ≤ n) && decide (n ≤ 1000))) := Lib.hid rfl
  by_cases h1 : 0 ≤ n
  · by_cases h2 : n ≤ 1000
    · have HW : Hid (levelB n = true) := Lib.hid (by rw [HV.out]; simp [h1, h2])
      go_enter Tryd.func55, Tryd.ntmps55
      go_wp2
      go_ret
      exact ⟨by rw [HW.out]; rfl, rfl⟩
    · have HW : Hid (levelB n = false) := Lib.hid (by rw [HV.out]; simp [h2])
      go_enter Tryd.func55, Tryd.ntmps55
      go_wp2
      go_ret
      exact ⟨by rw [HW.out]; rfl, rfl⟩
  · have HW : Hid (levelB n = false) := Lib.hid (by rw [HV.out]; simp [h1])
    go_enter Tryd.func55, Tryd.ntmps55
    go_wp2
    go_ret
    exact ⟨by rw [HW.out]; rfl, rfl⟩
end Go.Proofs.YtfklmcmoackepaaDoor

namespace Go.Proofs.YtfklmcmoackepaaDoor
open Go.RowKit


set_option maxHeartbeats 4000000 in
set_option maxRecDepth 100000 in
theorem rnumbers_any (k i j n : Int) (a : Option Addr) (l c : Nat) (w : World) : Calls Tryd.prog 40 #[termV k i j n (.slice a l c)] w fun e w' => e = .returned (.bool (numbersB k i j n)) ∧ Below w.heap.size w w' := by
  have hj : (j == 0) = true ∨ (j == 0) = false := by cases (j == 0) <;> simp
  have hn : (n == 0) = true ∨ (n == 0) = false := by cases (n == 0) <;> simp
  have hi : (i == 0) = true ∨ (i == 0) = false := by cases (i == 0) <;> simp
  unfold termV
  by_cases hA : k = 1 ∨ k = 10 ∨ k = 11 ∨ k = 12
  · have HV : Hid (numbersB k i j n = (levelB i && j == 0 && n == 0)) := Lib.hid (by unfold numbersB; rw [if_pos hA])
    generalize numbersB k i j n = nb at HV
    cases hli : levelB i
    · have HW : Hid (nb = false) := Lib.hid (by rw [HV.out, hli]; rfl)
      have HL := Lib.hid hli
      clear hli hj hn hi
      rcases hA with rfl | rfl | rfl | rfl
      all_goals
        go_enter Tryd.func40, Tryd.ntmps40
        go_wp2_with fail
        refine (rlevel_any i _).mono ?_
        rintro e w1 ⟨rfl, rfl⟩
        rw [HL.out]
        go_wp2
        go_ret
        exact ⟨by rw [HW.out]; rfl, below_alloc _ _⟩
    · have HL := Lib.hid hli
      rcases hj with hj | hj <;> rcases hn with hn | hn
      all_goals
        have HW : Hid (nb = ((j == 0) && (n == 0))) := Lib.hid (by rw [HV.out, hli]; rfl)
        rw [hj, hn] at HW
      all_goals
        clear hli hi
        rcases hA with rfl | rfl | rfl | rfl
      all_goals
        go_enter Tryd.func40, Tryd.ntmps40
        go_wp2_with fail
        refine (rlevel_any i _).mono ?_
        rintro e w1 ⟨rfl, rfl⟩
        rw [HL.out]
        go_wp2
        go_ret
        exact ⟨by rw [HW.out]; rfl, below_alloc _ _⟩
  by_cases h2 : k = 2
  · subst h2
    have HV : Hid (numbersB 2 i j n = (decide (0 ≤ i) && decide (i ≤ 2147483647) && j == 0 && n == 0)) := Lib.hid rfl
    generalize numbersB 2 i j n = nb at HV
    by_cases g1 : 0 ≤ i
    · by_cases g2 : i ≤ 2147483647
      · rcases hj with hj | hj <;> rcases hn with hn | hn
        all_goals
          have HW : Hid (nb = ((j == 0) && (n == 0))) := Lib.hid (by rw [HV.out]; simp [g1, g2])
          rw [hj, hn] at HW
          clear hi hA
          go_enter Tryd.func40, Tryd.ntmps40
          go_wp2
          go_ret
          exact ⟨by rw [HW.out]; rfl, below_alloc _ _⟩
      · have HW : Hid (nb = false) := Lib.hid (by rw [HV.out]; simp [g2])
        clear hi hj hn hA
        go_enter Tryd.func40, Tryd.ntmps40
        go_wp2
        go_ret
        exact ⟨by rw [HW.out]; rfl, below_alloc _ _⟩
    · have HW : Hid (nb = false) := Lib.hid (by rw [HV.out]; simp [g1])
      clear hi hj hn hA
      go_enter Tryd.func40, Tryd.ntmps40
      go_wp2
      go_ret
      exact ⟨by rw [HW.out]; rfl, below_alloc _ _⟩
  by_cases h3 : k = 3 ∨ k = 4 ∨ k = 5 ∨ k = 6 ∨ k = 7 ∨ k = 8 ∨ k = 9
  · have HV : Hid (numbersB k i j n = (levelB i && levelB j && n == 0)) := Lib.hid (by unfold numbersB; rw [if_neg hA, if_neg h2, if_pos h3])
    generalize numbersB k i j n = nb at HV
    clear hA h2 hi hj
    cases hli : levelB i
    · have HW : Hid (nb = false) := Lib.hid (by rw [HV.out, hli]; rfl)
      have HL := Lib.hid hli
      clear hli hn
      rcases h3 with rfl | rfl | rfl | rfl | rfl | rfl | rfl
      all_goals
        go_enter Tryd.func40, Tryd.ntmps40
        go_wp2_with fail
        refine (rlevel_any i _).mono ?_
        rintro e w1 ⟨rfl, rfl⟩
        rw [HL.out]
        go_wp2
        go_ret
        exact ⟨by rw [HW.out]; rfl, below_alloc _ _⟩
    · have HL := Lib.hid hli
      cases hlj : levelB j
      all_goals
        have HW : Hid (nb = (levelB j && (n == 0))) := Lib.hid (by rw [HV.out, hli]; rfl)
        rw [hlj] at HW
        have HLJ := Lib.hid hlj
        clear hli hlj
      · clear hn
        rcases h3 with rfl | rfl | rfl | rfl | rfl | rfl | rfl
        all_goals
          go_enter Tryd.func40, Tryd.ntmps40
          go_wp2_with fail
          refine (rlevel_any i _).mono ?_
          rintro e w1 ⟨rfl, rfl⟩
          rw [HL.out]
          go_wp2_with fail
          refine (rlevel_any j _).mono ?_
          rintro e w1 ⟨rfl, rfl⟩
          rw [HLJ.out]
          go_wp2
          go_ret
          exact ⟨by rw [HW.out]; rfl, below_alloc _ _⟩
      · rcases hn with hn | hn
        all_goals
          rw [hn] at HW
          rcases h3 with rfl | rfl | rfl | rfl | rfl | rfl | rfl
        all_goals
          go_enter Tryd.func40, Tryd.ntmps40
          go_wp2_with fail
          refine (rlevel_any i _).mono ?_
          rintro e w1 ⟨rfl, rfl⟩
          rw [HL.out]
          go_wp2_with fail
          refine (rlevel_any j _).mono ?_
          rintro e w1 ⟨rfl, rfl⟩
          rw [HLJ.out]
          go_wp2
          go_ret
          exact ⟨by rw [HW.out]; rfl, below_alloc _ _⟩
  by_cases h4 : k = 23
  · subst h4
    have HV : Hid (numbersB 23 i j n = (levelB i && levelB j)) := Lib.hid rfl
    generalize numbersB 23 i j n = nb at HV
    clear hA h2 hi hj hn h3
    cases hli : levelB i
    · have HW : Hid (nb = false) := Lib.hid (by rw [HV.out, hli]; rfl)
      have HL := Lib.hid hli
      clear hli
      go_enter Tryd.func40, Tryd.ntmps40
      go_wp2_with fail
      refine (rlevel_any i _).mono ?_
      rintro e w1 ⟨rfl, rfl⟩
      rw [HL.out]
      go_wp2
      go_ret
      exact ⟨by rw [HW.out]; rfl, below_alloc _ _⟩
    · have HW : Hid (nb = levelB j) := Lib.hid (by rw [HV.out, hli]; rfl)
      have HL := Lib.hid hli
      clear hli
      go_enter Tryd.func40, Tryd.ntmps40
      go_wp2_with fail
      refine (rlevel_any i _).mono ?_
      rintro e w1 ⟨rfl, rfl⟩
      rw [HL.out]
      go_wp2_with fail
      refine (rlevel_any j _).mono ?_
      rintro e w1 ⟨rfl, rfl⟩
      go_wp2
      go_ret
      exact ⟨by rw [HW.out]; rfl, below_alloc _ _⟩
  have HV : Hid (numbersB k i j n = (i == 0 && j == 0 && n == 0)) := Lib.hid (by unfold numbersB; rw [if_neg hA, if_neg h2, if_neg h3, if_neg h4])
  generalize numbersB k i j n = nb at HV
  have e1 : (k == 1) = false := by simp; omega
  have e2 : (k == 2) = false := by simp; omega
  have e3 : (k == 3) = false := by simp; omega
  have e4 : (k == 4) = false := by simp; omega
  have e5 : (k == 5) = false := by simp; omega
  have e6 : (k == 6) = false := by simp; omega
  have e7 : (k == 7) = false := by simp; omega
  have e8 : (k == 8) = false := by simp; omega
  have e9 : (k == 9) = false := by simp; omega
  have e10 : (k == 10) = false := by simp; omega
  have e11 : (k == 11) = false := by simp; omega
  have e12 : (k == 12) = false := by simp; omega
  have e23 : (k == 23) = false := by simp; omega
  clear hA h2 h3 h4
  rcases hi with hi | hi <;> rcases hj with hj | hj <;> rcases hn with hn | hn
  all_goals
    rw [hi, hj, hn] at HV
    go_enter Tryd.func40, Tryd.ntmps40
    go_wp2
    go_ret
    exact ⟨by rw [HV.out]; rfl, below_alloc _ _⟩
end Go.Proofs.YtfklmcmoackepaaDoor
