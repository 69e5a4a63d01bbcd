/- Plain laws on decimal numerals. -/
import Derived.Test.YtfklmcmoackepaaDoorRefGet
namespace Go.Proofs.YtfklmcmoackepaaDoor
open Go.RowKit

theorem dec_snoc (n d : Nat) (hn : 0 < n) (hd : d < 10) : Lib.decDigits (10 * n + d) = Lib.decDigits n ++ Lib.decDigits d := by
  rw [Lib.decDigits, dif_neg (by omega), Lib.decDigits_one hd]
  rw [show (10 * n + d) / 10 = n by omega, show (10 * n + d) % 10 = d by omega]

theorem digs_dec (u : Nat) : digs (Lib.decDigits u) = true ∧ valL (Lib.decDigits u) = u := by
  induction u using Nat.strongRecOn with
  | _ u ih =>
    have hdig : ∀ d, d < 10 → (UInt8.ofNat (48 + d)).toNat = 48 + d := fun d hd => by
      rw [UInt8.toNat_ofNat']; omega
    by_cases h : u < 10
    · rw [Lib.decDigits_one h]
      refine ⟨?_, ?_⟩
      · simp only [digs, List.all_cons, List.all_nil, Bool.and_true, isDigit, hdig u h]; simp; omega
      · simp only [valL, List.foldl_cons, List.foldl_nil, hdig u h]; omega
    · rw [Lib.decDigits, dif_neg h]
      have := ih (u / 10) (by omega)
      rw [digs_snoc, valL_snoc, this.1, this.2, hdig _ (Nat.mod_lt _ (by omega))]
      refine ⟨?_, by omega⟩
      simp [isDigit]; omega

theorem dec_inj {a b : Nat} (h : Lib.decDigits a = Lib.decDigits b) : a = b := by
  rw [← (digs_dec a).2, ← (digs_dec b).2, h]

theorem dec_no_minus (u : Nat) : (Lib.decDigits u).head? ≠ some 45 := by
  intro h
  have hd := (digs_dec u).1
  cases hl : Lib.decDigits u with
  | nil => rw [hl] at h; simp at h
  | cons c r =>
    rw [hl] at h hd
    simp only [List.head?_cons, Option.some.injEq] at h
    subst h
    simp [digs, isDigit] at hd

theorem itoa_inj {a b : Int} (h : Lib.itoa a = Lib.itoa b) : a = b := by
  unfold Lib.itoa at h
  by_cases ha : a < 0 <;> by_cases hb : b < 0
  · rw [if_pos ha, if_pos hb] at h
    have := dec_inj (List.cons.inj h).2
    omega
  · rw [if_pos ha, if_neg hb] at h
    exact absurd (by rw [← h]; rfl) (dec_no_minus b.toNat)
  · rw [if_neg ha, if_pos hb] at h
    exact absurd (by rw [h]; rfl) (dec_no_minus a.toNat)
  · rw [if_neg ha, if_neg hb] at h
    have := dec_inj h
    omega

theorem nDigits_le : ∀ (k u : Nat), u < 10 ^ (k + 1) → Lib.nDigits u ≤ k + 1
  | 0, u, h => by rw [Lib.nDigits_small (by simpa using h)]; omega
  | k + 1, u, h => by
    by_cases h10 : u < 10
    · rw [Lib.nDigits_small h10]; omega
    · rw [Lib.nDigits_big h10]
      have := nDigits_le k (u / 10) (by rw [Nat.pow_succ] at h; omega)
      omega

theorem dec_length_le (u : Nat) (h : u ≤ 1000000) : (Lib.decDigits u).length ≤ 7 := by
  rw [Lib.decDigits_length]
  exact nDigits_le 6 u (by omega)

theorem getN_itoa (n : Int) : getN (Lib.itoa n) = if n < 0 ∨ 1000000 < n then none else some n.toNat := by
  unfold getN
  by_cases hn : n < 0
  · rw [if_pos (Or.inl hn)]
    split
    · rfl
    · rw [if_neg]
      unfold Lib.itoa
      rw [if_pos hn]
      simp [digs, isDigit]
  · obtain ⟨u, rfl⟩ := Int.eq_ofNat_of_zero_le (by omega : 0 ≤ n)
    rw [Lib.itoa_nonneg]
    have hd := digs_dec u
    rw [hd.1, hd.2]
    have hp : 0 < (Lib.decDigits u).length := by rw [Lib.decDigits_length]; exact Lib.nDigits_pos u
    by_cases hm : 1000000 < u
    · rw [if_pos (show (u : Int) < 0 ∨ 1000000 < (u : Int) by omega)]
      split
      · rfl
      · rw [if_pos rfl, if_pos (Or.inl hm)]
    · rw [if_neg (show ¬ ((u : Int) < 0 ∨ 1000000 < (u : Int)) by omega)]
      have := dec_length_le u (by omega)
      rw [if_neg (by omega), if_pos rfl, if_neg]
      · rfl
      · rintro (h | h)
        · exact hm h
        · exact h (Lib.itoa_nonneg u)
end Go.Proofs.YtfklmcmoackepaaDoor
