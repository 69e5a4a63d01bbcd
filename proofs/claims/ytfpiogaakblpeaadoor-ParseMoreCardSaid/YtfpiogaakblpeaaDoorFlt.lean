/- The order of floating-point words, and of whole numbers among them. -/
import Derived.Test.YtfpiogaakblpeaaDoorParT2
namespace Go.Proofs.YtfpiogaakblpeaaDoor
open Go.RowKit Ieee

/-- one word is not above the other -/
def leD (d e : Datum) : Bool := d.order e == some Ordering.lt || d.order e == some Ordering.eq
def geD (d e : Datum) : Bool := d.order e == some Ordering.gt || d.order e == some Ordering.eq

theorem compare_int (a b : Int) : compare a b = if a < b then Ordering.lt else if a = b then .eq else .gt := rfl
theorem compare_mul (a b : Int) (k : Nat) (hk : 0 < k) : compare (a * (k : Int)) (b * (k : Int)) = compare a b := by
  have hk' : (0 : Int) < (k : Int) := by omega
  rw [compare_int, compare_int]
  by_cases h1 : a < b
  · rw [if_pos h1, if_pos (Int.mul_lt_mul_of_pos_right h1 hk')]
  · rw [if_neg h1]
    by_cases h2 : a = b
    · subst h2; simp
    · have h3 : b * (k : Int) < a * (k : Int) := Int.mul_lt_mul_of_pos_right (by omega) hk'
      rw [if_neg h2, if_neg (by omega), if_neg (by omega)]
theorem signed_mul (s : Bool) (m u e : Nat) : signed s m (u + e) = signed s m u * ((2 ^ e : Nat) : Int) := by
  unfold signed
  rw [Nat.shiftLeft_eq, Nat.shiftLeft_eq, Nat.pow_add, ← Nat.mul_assoc]
  cases s
  · simp only [Bool.false_eq_true, if_false, Int.natCast_mul]
  · simp only [if_true, Int.natCast_mul, Int.neg_mul]

theorem order_num (s t : Bool) (m n : Nat) (i j base : Int) (hi : base ≤ i) (hj : base ≤ j) :
    (Datum.number s m i).order (.number t n j) = some (compare (signed s m (i - base).toNat) (signed t n (j - base).toNat)) := by
  obtain ⟨e, he⟩ : ∃ e : Nat, e = (min i j - base).toNat := ⟨_, rfl⟩
  have h1 : (i - base).toNat = (i - min i j).toNat + e := by omega
  have h2 : (j - base).toNat = (j - min i j).toNat + e := by omega
  rw [h1, h2, signed_mul, signed_mul, compare_mul _ _ _ (Nat.two_pow_pos e)]
  rfl

theorem leD_num {s t : Bool} {m n : Nat} {i j : Int} (base : Int) (hi : base ≤ i) (hj : base ≤ j) :
    leD (.number s m i) (.number t n j) = true ↔ signed s m (i - base).toNat ≤ signed t n (j - base).toNat := by
  unfold leD
  rw [order_num s t m n i j base hi hj, compare_int]
  by_cases h1 : signed s m (i - base).toNat < signed t n (j - base).toNat
  · rw [if_pos h1]; simp; omega
  · rw [if_neg h1]
    by_cases h2 : signed s m (i - base).toNat = signed t n (j - base).toNat
    · rw [if_pos h2]; simp; omega
    · rw [if_neg h2]; simp; omega
theorem geD_num {s t : Bool} {m n : Nat} {i j : Int} (base : Int) (hi : base ≤ i) (hj : base ≤ j) :
    geD (.number s m i) (.number t n j) = true ↔ signed t n (j - base).toNat ≤ signed s m (i - base).toNat := by
  unfold geD
  rw [order_num s t m n i j base hi hj, compare_int]
  by_cases h1 : signed s m (i - base).toNat < signed t n (j - base).toNat
  · rw [if_pos h1]; simp; omega
  · rw [if_neg h1]
    by_cases h2 : signed s m (i - base).toNat = signed t n (j - base).toNat
    · rw [if_pos h2]; simp; omega
    · rw [if_neg h2]; simp; omega

theorem leD_of_geD {d e : Datum} (h : geD e d = true) : leD d e = true := by
  cases d with
  | nan => cases e <;> simp [geD, Datum.order] at h
  | infinity s => cases e with
    | nan => simp [geD, Datum.order] at h
    | infinity t => cases s <;> cases t <;> first | (simp [geD, Datum.order, Bool.toNat] at h; done) | (simp [leD, Datum.order, Bool.toNat]; done) | (revert h; decide)
    | number t n j => cases s <;> simp [geD, leD, Datum.order] at h ⊢
  | number s m i => cases e with
    | nan => simp [geD, Datum.order] at h
    | infinity t => cases t <;> simp [geD, leD, Datum.order] at h ⊢
    | number t n j =>
      have hi : min i j ≤ i := by omega
      have hj : min i j ≤ j := by omega
      exact (leD_num _ hi hj).2 ((geD_num _ hj hi).1 h)

theorem leD_trans {a b c : Datum} (h1 : leD a b = true) (h2 : leD b c = true) : leD a c = true := by
  cases a with
  | nan => cases b <;> simp [leD, Datum.order] at h1
  | infinity s => cases b with
    | nan => simp [leD, Datum.order] at h1
    | infinity t => cases c with
      | nan => simp [leD, Datum.order] at h2
      | infinity u => revert h1 h2; revert s t u; decide
      | number u p k => revert h1 h2; cases s <;> cases t <;> cases u <;> simp [leD, Datum.order] <;> decide
    | number t n j => cases s <;> cases c with
      | nan => simp [leD, Datum.order] at h2
      | infinity u => cases u <;> simp [leD, Datum.order] at h1 h2 ⊢ <;> decide
      | number u p k => simp [leD, Datum.order] at h1 ⊢
  | number s m i => cases b with
    | nan => simp [leD, Datum.order] at h1
    | infinity t => cases t <;> cases c with
      | nan => simp [leD, Datum.order] at h2
      | infinity u => cases u <;> simp [leD, Datum.order] at h1 h2 ⊢ <;> (first | done | (revert h2; decide))
      | number u p k => simp [leD, Datum.order] at h1 h2
    | number t n j => cases c with
      | nan => simp [leD, Datum.order] at h2
      | infinity u => cases u <;> simp [leD, Datum.order] at h2 ⊢
      | number u p k =>
        obtain ⟨x, hx⟩ : ∃ x : Int, x = min i (min j k) := ⟨_, rfl⟩
        have hi : x ≤ i := by omega
        have hj : x ≤ j := by omega
        have hk : x ≤ k := by omega
        have a1 := (leD_num x hi hj).1 h1
        have a2 := (leD_num x hj hk).1 h2
        exact (leD_num x hi hk).2 (by omega)

theorem within_mono {df dg : Nat} (h : (FloatKind.f64.format.order dg df == some Ordering.gt || FloatKind.f64.format.order dg df == some Ordering.eq) = true) (n : Int) (hn : withinB n df = true) : withinB n dg = true :=
  leD_trans (b := FloatKind.f64.format.read df) hn (leD_of_geD h)

/-! whole numbers -/
def expF : Nat := 1074
def unitF : Nat := 2 ^ expF
theorem unitF_pos : 0 < unitF := Nat.two_pow_pos _
theorem binade64 : Ieee.double.binade = 2 ^ 52 := rfl
theorem infRung64 : Ieee.double.infRung = 2047 * 2 ^ 52 := rfl
theorem sign64 : Ieee.double.signWeight = 2 ^ 63 := rfl
theorem least64 : Ieee.double.leastPlace = -1074 := rfl

theorem frac64 : Ieee.double.fractionBits = 52 := rfl

theorem cut0 (q : Nat) : Toward.even.cut false q 0 = q := by
    unfold Toward.cut
    simp only [Nat.zero_min, Nat.shiftLeft_zero, Nat.div_one, Nat.mod_one]
    simp
theorem nearest_pos (n : Nat) (h0 : 0 < n) (h : n < 2 ^ 53) :
    Ieee.double.nearest false n 0 = (n.log2 + 1022) * 2 ^ 52 + n * 2 ^ (52 - n.log2) := by
  have hl : n.log2 < 53 := (Nat.log2_lt (by omega)).2 h
  have h2 := Nat.lt_log2_self (n := n)
  have hlt : n * 2 ^ (52 - n.log2) < 2 ^ 53 := by
    have h3 : n * 2 ^ (52 - n.log2) < 2 ^ (n.log2 + 1) * 2 ^ (52 - n.log2) := Nat.mul_lt_mul_of_pos_right h2 (Nat.two_pow_pos _)
    rw [← Nat.pow_add, show n.log2 + 1 + (52 - n.log2) = 53 by omega] at h3
    exact h3
  unfold Format.nearest
  rw [if_neg (by omega)]
  clear h2 h0 h
  have e1 : max ((0 : Int) + n.log2 - (Ieee.double.fractionBits : Nat)) Ieee.double.leastPlace = n.log2 - 52 := by
    rw [frac64, least64]
    omega
  dsimp only
  rw [e1]
  have e2 : ((0 : Int) - (n.log2 - 52)).toNat = 52 - n.log2 := by omega
  have e3 : (((n.log2 : Int) - 52) - 0).toNat = 0 := by omega
  have e4 : (((n.log2 : Int) - 52) - Ieee.double.leastPlace).toNat = n.log2 + 1022 := by rw [least64]; omega
  rw [e2, e3, e4, Nat.shiftLeft_eq, cut0]
  generalize n * 2 ^ (52 - n.log2) = q at *
  rw [infRung64, binade64, Nat.min_eq_left (by omega)]
  rfl

theorem read_pos (n : Nat) (h0 : 0 < n) (h : n < 2 ^ 53) :
    Ieee.double.read (Ieee.double.nearest false n 0) = .number false (n * 2 ^ (52 - n.log2)) ((n.log2 : Int) - 52) := by
  have hl : n.log2 < 53 := (Nat.log2_lt (by omega)).2 h
  have h1 := Nat.log2_self_le (n := n) (by omega)
  have h2 := Nat.lt_log2_self (n := n)
  rw [nearest_pos n h0 h]
  have hlt : n * 2 ^ (52 - n.log2) < 2 ^ 53 := by
    have h3 : n * 2 ^ (52 - n.log2) < 2 ^ (n.log2 + 1) * 2 ^ (52 - n.log2) := Nat.mul_lt_mul_of_pos_right h2 (Nat.two_pow_pos _)
    rw [← Nat.pow_add, show n.log2 + 1 + (52 - n.log2) = 53 by omega] at h3
    exact h3
  have hge : 2 ^ 52 ≤ n * 2 ^ (52 - n.log2) := by
    have h3 : 2 ^ n.log2 * 2 ^ (52 - n.log2) ≤ n * 2 ^ (52 - n.log2) := Nat.mul_le_mul_right _ h1
    rw [← Nat.pow_add, show n.log2 + (52 - n.log2) = 52 by omega] at h3
    exact h3
  generalize n * 2 ^ (52 - n.log2) = q at *
  generalize n.log2 = L at *
  unfold Format.read
  rw [sign64, binade64, infRung64, least64]
  have e1 : ((L + 1022) * 2 ^ 52 + q) / 2 ^ 63 % 2 = 0 := by omega
  have e2 : ((L + 1022) * 2 ^ 52 + q) % 2 ^ 63 = (L + 1022) * 2 ^ 52 + q := by omega
  have e3 : 2 ^ 52 + ((L + 1022) * 2 ^ 52 + q) % 2 ^ 52 = q := by omega
  have e4 : ((L + 1022) * 2 ^ 52 + q) / 2 ^ 52 - 1 = L + 1022 := by omega
  simp only [e1, e2, e3, e4]
  rw [if_neg (by omega), if_pos (by omega)]
  have e5 : (-1074 : Int) + ((L + 1022 : Nat) : Int) = (L : Int) - 52 := by omega
  rw [e5]
  rfl

/-- what the word of a whole number stands for -/
theorem read_whole (n : Nat) (h : n < 2 ^ 53) : ∃ k p, FloatKind.f64.format.read (floatOfInt FloatKind.f64 n) = .number false k p ∧ -1074 ≤ p ∧ k * 2 ^ (p - -1074).toNat = n * unitF := by
  by_cases h0 : n = 0
  · subst h0
    exact ⟨0, -1074, by decide +kernel, by omega, by simp⟩
  · refine ⟨n * 2 ^ (52 - n.log2), (n.log2 : Int) - 52, ?_, by omega, ?_⟩
    · have hs : (decide ((n : Int) < 0)) = false := by simp
      show Ieee.double.read (Ieee.double.nearest (decide ((n : Int) < 0)) (n : Int).natAbs 0) = _
      rw [hs, Int.natAbs_natCast]
      exact read_pos n (by omega) h
    · have hl : n.log2 < 53 := (Nat.log2_lt h0).2 h
      rw [Nat.mul_assoc, ← Nat.pow_add, show 52 - n.log2 + (((n.log2 : Int) - 52) - -1074).toNat = expF by unfold expF; omega]
      rfl

theorem within_whole (m n : Nat) (hm : m < 2 ^ 53) (hn : n < 2 ^ 53) : withinB m (floatOfInt FloatKind.f64 n) = decide (m ≤ n) := by
  obtain ⟨k, p, h1, h2, h3⟩ := read_whole m hm
  obtain ⟨l, q, h4, h5, h6⟩ := read_whole n hn
  have h7 : withinB m (floatOfInt FloatKind.f64 n) = leD (FloatKind.f64.format.read (floatOfInt FloatKind.f64 m)) (FloatKind.f64.format.read (floatOfInt FloatKind.f64 n)) := rfl
  rw [h7, h1, h4]
  have h8 := leD_num (s := false) (t := false) (m := k) (n := l) (-1074) h2 h5
  have h9 : signed false k (p - -1074).toNat = ((m * unitF : Nat) : Int) := by
    unfold signed
    rw [Nat.shiftLeft_eq, h3]; rfl
  have h10 : signed false l (q - -1074).toNat = ((n * unitF : Nat) : Int) := by
    unfold signed
    rw [Nat.shiftLeft_eq, h6]; rfl
  rw [h9, h10] at h8
  have h11 : ((m * unitF : Nat) : Int) ≤ ((n * unitF : Nat) : Int) ↔ m ≤ n := by
    rw [Int.ofNat_le]
    exact Nat.mul_le_mul_right_iff unitF_pos
  by_cases hle : m ≤ n
  · rw [h8.2 (h11.2 hle)]; simp [hle]
  · have : leD (.number false k p) (.number false l q) = false := by
      cases hq : leD (.number false k p) (.number false l q) with
      | false => rfl
      | true => exact absurd (h11.1 (h8.1 hq)) hle
    rw [this]; simp [hle]
end Go.Proofs.YtfpiogaakblpeaaDoor
