/- Terms on trees: what is right by the document's definition; what is free; texts tell terms apart. -/
import Derived.Test.YtefjgpahgffmfaaDoorTm
import Derived.Test.YtefjgpahgffmfaaDoorNumP
namespace Go.Proofs.YtefjgpahgffmfaaDoor
open Go.RowKit

/-! ### right, as the document says -/
mutual
def plainT : TT → Bool
  | .node k i j n ks => (k == 1 || k == 2 || (decide (13 ≤ k) && decide (k ≤ 23))) && (ks.length : Int) == kidsK k n && numbersB k i j n && plainTs ks
def plainTs : List TT → Bool
  | [] => true
  | t :: ts => plainT t && plainTs ts
end
mutual
def markedT : TT → Bool
  | .node k i j n ks => decide (1 ≤ k) && decide (k ≤ 12) && (ks.length : Int) == kidsK k n && numbersB k i j n && markedTs k 0 ks
def markedTs (k : Int) (x : Nat) : List TT → Bool
  | [] => true
  | t :: ts => (if k = 12 ∧ x = 2 then plainT t else markedT t) && markedTs k (x + 1) ts
end

theorem kidsK_in {k n : Int} {l : Nat} (h : (l : Int) = kidsK k n) : 1 ≤ k ∧ k ≤ 23 := by
  unfold kidsK at h
  repeat (split at h; omega)
  omega
theorem sortK_of {k : Int} (h1 : 1 ≤ k) (h2 : k ≤ 23) : sortK k = if k = 1 ∨ k = 2 then 0 else if k ≤ 12 then 1 else 2 := rfl

mutual
theorem right_plain : ∀ (t : TT), rightT t 2 = plainT t
  | .node k i j n ks => by
    by_cases hl : (ks.length : Int) = kidsK k n
    · obtain ⟨h1, h2⟩ := kidsK_in hl
      have hb : ((ks.length : Int) == kidsK k n) = true := by simpa using hl
      have hs : (!((2 : Int) != 0 && sortK k != 0 && sortK k != 2)) = (k == 1 || k == 2 || (decide (13 ≤ k) && decide (k ≤ 23))) := by
        unfold sortK
        by_cases h3 : k = 1 ∨ k = 2
        · rw [if_pos h3]; rcases h3 with rfl | rfl <;> simp
        · rw [if_neg h3]
          by_cases h4 : k ≤ 12
          · rw [if_pos h4]; simp; omega
          · rw [if_neg h4]; simp; omega
      simp only [rightT, plainT, hb, hs, Bool.and_true]
      by_cases h3 : k = 1 ∨ k = 2 ∨ (13 ≤ k ∧ k ≤ 23)
      · have := right_plains k 0 ks (by
          intro x t hx
          unfold ofK sortK
          rcases h3 with rfl | rfl | ⟨h4, h5⟩
          · have : ks.length = 0 := by rw [show kidsK 1 n = 0 from rfl] at hl; omega
            rw [List.eq_nil_of_length_eq_zero this] at hx; simp at hx
          · have : ks.length = 0 := by rw [show kidsK 2 n = 0 from rfl] at hl; omega
            rw [List.eq_nil_of_length_eq_zero this] at hx; simp at hx
          · rw [if_neg (by omega), if_neg (by omega), if_neg (by omega)])
        rw [this]
      · have hf : (k == 1 || k == 2 || (decide (13 ≤ k) && decide (k ≤ 23))) = false := by simp; omega
        rw [hf]; simp
    · have hb : ((ks.length : Int) == kidsK k n) = false := by simpa using hl
      simp [rightT, plainT, hb]
theorem right_plains : ∀ (k : Int) (x : Nat) (ks : List TT), (∀ y t, ks[y]? = some t → ofK k (x + y) = 2) → rightTs k x ks = plainTs ks
  | _, _, [], _ => rfl
  | k, x, t :: ts, h => by
    have h0 := h 0 t rfl
    rw [Nat.add_zero] at h0
    simp only [rightTs, plainTs, h0, right_plain t]
    rw [right_plains k (x + 1) ts (fun y u hy => by have := h (y + 1) u (by simpa using hy); rw [← this]; congr 1; omega)]
end
mutual
theorem right_marked : ∀ (t : TT), rightT t 1 = markedT t
  | .node k i j n ks => by
    by_cases hl : (ks.length : Int) = kidsK k n
    · obtain ⟨h1, h2⟩ := kidsK_in hl
      have hb : ((ks.length : Int) == kidsK k n) = true := by simpa using hl
      have hs : (!((1 : Int) != 0 && sortK k != 0 && sortK k != 1)) = (decide (1 ≤ k) && decide (k ≤ 12)) := by
        unfold sortK
        by_cases h3 : k = 1 ∨ k = 2
        · rw [if_pos h3]; rcases h3 with rfl | rfl <;> simp
        · rw [if_neg h3]
          by_cases h4 : k ≤ 12
          · rw [if_pos h4]; simp; omega
          · rw [if_neg h4]; simp; omega
      simp only [rightT, markedT, hb, hs, Bool.and_true]
      by_cases h3 : k ≤ 12
      · rw [right_markeds k 0 ks (by
          intro x t hx
          unfold ofK sortK
          by_cases h4 : k = 1 ∨ k = 2
          · have : ks.length = 0 := by
              rcases h4 with rfl | rfl
              · rw [show kidsK 1 n = 0 from rfl] at hl; omega
              · rw [show kidsK 2 n = 0 from rfl] at hl; omega
            rw [List.eq_nil_of_length_eq_zero this] at hx; simp at hx
          · rw [if_neg h4, if_pos h3])]
      · have hf : (decide (1 ≤ k) && decide (k ≤ 12)) = false := by simp; omega
        rw [hf]; simp
    · have hb : ((ks.length : Int) == kidsK k n) = false := by simpa using hl
      simp [rightT, markedT, hb]
theorem right_markeds : ∀ (k : Int) (x : Nat) (ks : List TT), (∀ y t, ks[y]? = some t → ofK k (x + y) = if k = 12 ∧ x + y = 2 then 2 else 1) → rightTs k x ks = markedTs k x ks
  | _, _, [], _ => rfl
  | k, x, t :: ts, h => by
    have h0 := h 0 t rfl
    rw [Nat.add_zero] at h0
    simp only [rightTs, markedTs, h0]
    rw [right_markeds k (x + 1) ts (fun y u hy => by
      have := h (y + 1) u (by simpa using hy)
      rw [show x + (y + 1) = x + 1 + y by omega] at this
      exact this)]
    by_cases hc : k = 12 ∧ x = 2
    · rw [if_pos hc, if_pos hc, right_plain t]
    · rw [if_neg hc, if_neg hc, right_marked t]
end
theorem right_either : ∀ (t : TT), rightT t 0 = (markedT t || plainT t)
  | .node k i j n ks => by
    rw [← right_marked, ← right_plain]
    by_cases hl : (ks.length : Int) = kidsK k n
    · obtain ⟨h1, h2⟩ := kidsK_in hl
      have hb : ((ks.length : Int) == kidsK k n) = true := by simpa using hl
      simp only [rightT, hb, Bool.and_true]
      have e0 : (!((0 : Int) != 0 && sortK k != 0 && sortK k != 0)) = true := by simp
      rw [e0]
      unfold sortK
      by_cases h3 : k = 1 ∨ k = 2
      · rw [if_pos h3]; simp
      · rw [if_neg h3]
        by_cases h4 : k ≤ 12
        · rw [if_pos h4]; simp
        · rw [if_neg h4]; simp
    · have hb : ((ks.length : Int) == kidsK k n) = false := by simpa using hl
      simp [rightT, hb]

/-! ### free, as the document says -/
mutual
def freeR : TT → Int
  | .node k i _ _ ks => if k = 2 then i + 1 else freeRs k 0 ks
def freeRs (k : Int) (x : Nat) : List TT → Int
  | [] => 0
  | t :: ts => max (freeR t - bindsK k x) (freeRs k (x + 1) ts)
end
theorem bindsK_in (k x : Int) : 0 ≤ bindsK k x ∧ bindsK k x ≤ 2 := by
  unfold bindsK
  repeat (split; omega)
  omega
mutual
theorem free_is : ∀ (t : TT) (deep : Int), 0 ≤ deep → freeT t deep = max (freeR t - deep) 0
  | .node k i j n ks, deep, h => by
    simp only [freeT, freeR]
    by_cases hk : k = 2
    · rw [if_pos hk, if_pos hk]
    · rw [if_neg hk, if_neg hk, frees_is k 0 ks deep h]
theorem frees_is : ∀ (k : Int) (x : Nat) (ks : List TT) (deep : Int), 0 ≤ deep → freeTs k x ks deep = max (freeRs k x ks - deep) 0
  | _, _, [], deep, h => by simp only [freeTs, freeRs]; omega
  | k, x, t :: ts, deep, h => by
    have hb := bindsK_in k x
    simp only [freeTs, freeRs, free_is t (deep + bindsK k x) (by omega), frees_is k (x + 1) ts deep h]
    omega
end

/-! ### texts tell terms apart -/
/-- what may stand behind a word -/
def Stop (r : List UInt8) : Prop := r = [] ∨ ∃ c z, r = c :: z ∧ (c = 32 ∨ c = 41)
def Free2 (u : List UInt8) : Prop := ∀ c ∈ u, c ≠ 32 ∧ c ≠ 41
theorem word_split : ∀ {u v r s : List UInt8}, Free2 u → Free2 v → Stop r → Stop s → u ++ r = v ++ s → u = v ∧ r = s
  | [], [], _, _, _, _, _, _, h => ⟨rfl, by simpa using h⟩
  | [], c :: v, r, s, _, hv, hr, _, h => by
    have hc := hv c (by simp)
    rcases hr with rfl | ⟨d, z, rfl, hd⟩
    · simp at h
    · simp only [List.nil_append, List.cons_append, List.cons.injEq] at h
      obtain ⟨rfl, _⟩ := h
      rcases hd with rfl | rfl
      · exact absurd rfl hc.1
      · exact absurd rfl hc.2
  | c :: u, [], r, s, hu, _, _, hs, h => by
    have hc := hu c (by simp)
    rcases hs with rfl | ⟨d, z, rfl, hd⟩
    · simp at h
    · simp only [List.nil_append, List.cons_append, List.cons.injEq] at h
      obtain ⟨rfl, _⟩ := h
      rcases hd with rfl | rfl
      · exact absurd rfl hc.1
      · exact absurd rfl hc.2
  | c :: u, d :: v, r, s, hu, hv, hr, hs, h => by
    simp only [List.cons_append, List.cons.injEq] at h
    obtain ⟨rfl, h⟩ := h
    obtain ⟨h1, h2⟩ := word_split (fun x hx => hu x (by simp [hx])) (fun x hx => hv x (by simp [hx])) hr hs h
    exact ⟨by rw [h1], h2⟩
end Go.Proofs.YtefjgpahgffmfaaDoor
