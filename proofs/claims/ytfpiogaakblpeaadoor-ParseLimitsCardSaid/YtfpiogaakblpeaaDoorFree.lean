/- The order of floating-point words, and of whole numbers among them. Allowances that are never met; the plain laws of ParseLimits and ParseBetween. -/
import Derived.Test.YtfpiogaakblpeaaDoorParT2
import Derived.Test.YtfpiogaakblpeaaDoorParB
namespace Go.Proofs.YtfpiogaakblpeaaDoor
open Go.RowKit Ieee

/-- one word is not above the other -/
def leD (d e : Datum) : Bool := d.order e == some Ordering.lt || d.order e == some Ordering.eq
def geD (d e : Datum) : Bool := d.order e == some Ordering.gt || d.order e == some Ordering.eq

theorem compare_int (a b : Int) : compare a b = if a < b then Ordering.lt else if a = b then .eq else .gt := rfl
theorem compare_mul (a b : Int) (k : Nat) (hk : 0 < k) : compare (a * (k : Int)) (b * (k : Int)) = compare a b := by
  have hk' : (0 : Int) < (k : Int) := by omega
  rw [compare_int, compare_int]
  by_cases h1 : a < b
  · rw [if_pos h1, if_pos (Int.mul_lt_mul_of_pos_right h1 hk')]
  · rw [if_neg h1]
    by_cases h2 : a = b
    · subst h2; simp
    · have h3 : b * (k : Int) < a * (k : Int) := Int.mul_lt_mul_of_pos_right (by omega) hk'
      rw [if_neg h2, if_neg (by omega), if_neg (by omega)]
theorem signed_mul (s : Bool) (m u e : Nat) : signed s m (u + e) = signed s m u * ((2 ^ e : Nat) : Int) := by
  unfold signed
  rw [Nat.shiftLeft_eq, Nat.shiftLeft_eq, Nat.pow_add, ← Nat.mul_assoc]
  cases s
  · simp only [Bool.false_eq_true, if_false, Int.natCast_mul]
  · simp only [if_true, Int.natCast_mul, Int.neg_mul]

theorem order_num (s t : Bool) (m n : Nat) (i j base : Int) (hi : base ≤ i) (hj : base ≤ j) :
    (Datum.number s m i).order (.number t n j) = some (compare (signed s m (i - base).toNat) (signed t n (j - base).toNat)) := by
  obtain ⟨e, he⟩ : ∃ e : Nat, e = (min i j - base).toNat := ⟨_, rfl⟩
  have h1 : (i - base).toNat = (i - min i j).toNat + e := by omega
  have h2 : (j - base).toNat = (j - min i j).toNat + e := by omega
  rw [h1, h2, signed_mul, signed_mul, compare_mul _ _ _ (Nat.two_pow_pos e)]
  rfl

theorem leD_num {s t : Bool} {m n : Nat} {i j : Int} (base : Int) (hi : base ≤ i) (hj : base ≤ j) :
    leD (.number s m i) (.number t n j) = true ↔ signed s m (i - base).toNat ≤ signed t n (j - base).toNat := by
  unfold leD
  rw [order_num s t m n i j base hi hj, compare_int]
  by_cases h1 : signed s m (i - base).toNat < signed t n (j - base).toNat
  · rw [if_pos h1]; simp; omega
  · rw [if_neg h1]
    by_cases h2 : signed s m (i - base).toNat = signed t n (j - base).toNat
    · rw [if_pos h2]; simp; omega
    · rw [if_neg h2]; simp; omega
theorem geD_num {s t : Bool} {m n : Nat} {i j : Int} (base : Int) (hi : base ≤ i) (hj : base ≤ j) :
    geD (.number s m i) (.number t n j) = true ↔ signed t n (j - base).toNat ≤ signed s m (i - base).toNat := by
  unfold geD
  rw [order_num s t m n i j base hi hj, compare_int]
  by_cases h1 : signed s m (i - base).toNat < signed t n (j - base).toNat
  · rw [if_pos h1]; simp; omega
  · rw [if_neg h1]
    by_cases h2 : signed s m (i - base).toNat = signed t n (j - base).toNat
    · rw [if_pos h2]; simp; omega
    · rw [if_neg h2]; simp; omega

theorem leD_of_geD {d e : Datum} (h : geD e d = true) : leD d e = true := by
  cases d with
  | nan => cases e <;> simp [geD, Datum.order] at h
  | infinity s => cases e with
    | nan => simp [geD, Datum.order] at h
    | infinity t => cases s <;> cases t <;> first | (simp [geD, Datum.order, Bool.toNat] at h; done) | (simp [leD, Datum.order, Bool.toNat]; done) | (revert h; decide)
    | number t n j => cases s <;> simp [geD, leD, Datum.order] at h ⊢
  | number s m i => cases e with
    | nan => simp [geD, Datum.order] at h
    | infinity t => cases t <;> simp [geD, leD, Datum.order] at h ⊢
    | number t n j =>
      have hi : min i j ≤ i := by omega
      have hj : min i j ≤ j := by omega
      exact (leD_num _ hi hj).2 ((geD_num _ hj hi).1 h)

theorem leD_trans {a b c : Datum} (h1 : leD a b = true) (h2 : leD b c = true) : leD a c = true := by
  cases a with
  | nan => cases b <;> simp [leD, Datum.order] at h1
  | infinity s => cases b with
    | nan => simp [leD, Datum.order] at h1
    | infinity t => cases c with
      | nan => simp [leD, Datum.order] at h2
      | infinity u => revert h1 h2; revert s t u; decide
      | number u p k => revert h1 h2; cases s <;> cases t <;> cases u <;> simp [leD, Datum.order] <;> decide
    | number t n j => cases s <;> cases c with
      | nan => simp [leD, Datum.order] at h2
      | infinity u => cases u <;> simp [leD, Datum.order] at h1 h2 ⊢ <;> decide
      | number u p k => simp [leD, Datum.order] at h1 ⊢
  | number s m i => cases b with
    | nan => simp [leD, Datum.order] at h1
    | infinity t => cases t <;> cases c with
      | nan => simp [leD, Datum.order] at h2
      | infinity u => cases u <;> simp [leD, Datum.order] at h1 h2 ⊢ <;> (first | done | (revert h2; decide))
      | number u p k => simp [leD, Datum.order] at h1 h2
    | number t n j => cases c with
      | nan => simp [leD, Datum.order] at h2
      | infinity u => cases u <;> simp [leD, Datum.order] at h2 ⊢
      | number u p k =>
        obtain ⟨x, hx⟩ : ∃ x : Int, x = min i (min j k) := ⟨_, rfl⟩
        have hi : x ≤ i := by omega
        have hj : x ≤ j := by omega
        have hk : x ≤ k := by omega
        have a1 := (leD_num x hi hj).1 h1
        have a2 := (leD_num x hj hk).1 h2
        exact (leD_num x hi hk).2 (by omega)

theorem within_mono {df dg : Nat} (h : (FloatKind.f64.format.order dg df == some Ordering.gt || FloatKind.f64.format.order dg df == some Ordering.eq) = true) (n : Int) (hn : withinB n df = true) : withinB n dg = true :=
  leD_trans (b := FloatKind.f64.format.read df) hn (leD_of_geD h)

/-! whole numbers -/
def expF : Nat := 1074
def unitF : Nat := 2 ^ expF
theorem unitF_pos : 0 < unitF := Nat.two_pow_pos _
theorem binade64 : Ieee.double.binade = 2 ^ 52 := rfl
theorem infRung64 : Ieee.double.infRung = 2047 * 2 ^ 52 := rfl
theorem sign64 : Ieee.double.signWeight = 2 ^ 63 := rfl
theorem least64 : Ieee.double.leastPlace = -1074 := rfl

theorem frac64 : Ieee.double.fractionBits = 52 := rfl

theorem cut0 (q : Nat) : Toward.even.cut false q 0 = q := by
    unfold Toward.cut
    simp only [Nat.zero_min, Nat.shiftLeft_zero, Nat.div_one, Nat.mod_one]
    simp
theorem nearest_pos (n : Nat) (h0 : 0 < n) (h : n < 2 ^ 53) :
    Ieee.double.nearest false n 0 = (n.log2 + 1022) * 2 ^ 52 + n * 2 ^ (52 - n.log2) := by
  have hl : n.log2 < 53 := (Nat.log2_lt (by omega)).2 h
  have h2 := Nat.lt_log2_self (n := n)
  have hlt : n * 2 ^ (52 - n.log2) < 2 ^ 53 := by
    have h3 : n * 2 ^ (52 - n.log2) < 2 ^ (n.log2 + 1) * 2 ^ (52 - n.log2) := Nat.mul_lt_mul_of_pos_right h2 (Nat.two_pow_pos _)
    rw [← Nat.pow_add, show n.log2 + 1 + (52 - n.log2) = 53 by omega] at h3
    exact h3
  unfold Format.nearest
  rw [if_neg (by omega)]
  clear h2 h0 h
  have e1 : max ((0 : Int) + n.log2 - (Ieee.double.fractionBits : Nat)) Ieee.double.leastPlace = n.log2 - 52 := by
    rw [frac64, least64]
    omega
  dsimp only
  rw [e1]
  have e2 : ((0 : Int) - (n.log2 - 52)).toNat = 52 - n.log2 := by omega
  have e3 : (((n.log2 : Int) - 52) - 0).toNat = 0 := by omega
  have e4 : (((n.log2 : Int) - 52) - Ieee.double.leastPlace).toNat = n.log2 + 1022 := by rw [least64]; omega
  rw [e2, e3, e4, Nat.shiftLeft_eq, cut0]
  generalize n * 2 ^ (52 - n.log2) = q at *
  rw [infRung64, binade64, Nat.min_eq_left (by omega)]
  rfl

theorem read_pos (n : Nat) (h0 : 0 < n) (h : n < 2 ^ 53) :
    Ieee.double.read (Ieee.double.nearest false n 0) = .number false (n * 2 ^ (52 - n.log2)) ((n.log2 : Int) - 52) := by
  have hl : n.log2 < 53 := (Nat.log2_lt (by omega)).2 h
  have h1 := Nat.log2_self_le (n := n) (by omega)
  have h2 := Nat.lt_log2_self (n := n)
  rw [nearest_pos n h0 h]
  have hlt : n * 2 ^ (52 - n.log2) < 2 ^ 53 := by
    have h3 : n * 2 ^ (52 - n.log2) < 2 ^ (n.log2 + 1) * 2 ^ (52 - n.log2) := Nat.mul_lt_mul_of_pos_right h2 (Nat.two_pow_pos _)
    rw [← Nat.pow_add, show n.log2 + 1 + (52 - n.log2) = 53 by omega] at h3
    exact h3
  have hge : 2 ^ 52 ≤ n * 2 ^ (52 - n.log2) := by
    have h3 : 2 ^ n.log2 * 2 ^ (52 - n.log2) ≤ n * 2 ^ (52 - n.log2) := Nat.mul_le_mul_right _ h1
    rw [← Nat.pow_add, show n.log2 + (52 - n.log2) = 52 by omega] at h3
    exact h3
  generalize n * 2 ^ (52 - n.log2) = q at *
  generalize n.log2 = L at *
  unfold Format.read
  rw [sign64, binade64, infRung64, least64]
  have e1 : ((L + 1022) * 2 ^ 52 + q) / 2 ^ 63 % 2 = 0 := by omega
  have e2 : ((L + 1022) * 2 ^ 52 + q) % 2 ^ 63 = (L + 1022) * 2 ^ 52 + q := by omega
  have e3 : 2 ^ 52 + ((L + 1022) * 2 ^ 52 + q) % 2 ^ 52 = q := by omega
  have e4 : ((L + 1022) * 2 ^ 52 + q) / 2 ^ 52 - 1 = L + 1022 := by omega
  simp only [e1, e2, e3, e4]
  rw [if_neg (by omega), if_pos (by omega)]
  have e5 : (-1074 : Int) + ((L + 1022 : Nat) : Int) = (L : Int) - 52 := by omega
  rw [e5]
  rfl

/-- what the word of a whole number stands for -/
theorem read_whole (n : Nat) (h : n < 2 ^ 53) : ∃ k p, FloatKind.f64.format.read (floatOfInt FloatKind.f64 n) = .number false k p ∧ -1074 ≤ p ∧ k * 2 ^ (p - -1074).toNat = n * unitF := by
  by_cases h0 : n = 0
  · subst h0
    exact ⟨0, -1074, by decide +kernel, by omega, by simp⟩
  · refine ⟨n * 2 ^ (52 - n.log2), (n.log2 : Int) - 52, ?_, by omega, ?_⟩
    · have hs : (decide ((n : Int) < 0)) = false := by simp
      show Ieee.double.read (Ieee.double.nearest (decide ((n : Int) < 0)) (n : Int).natAbs 0) = _
      rw [hs, Int.natAbs_natCast]
      exact read_pos n (by omega) h
    · have hl : n.log2 < 53 := (Nat.log2_lt h0).2 h
      rw [Nat.mul_assoc, ← Nat.pow_add, show 52 - n.log2 + (((n.log2 : Int) - 52) - -1074).toNat = expF by unfold expF; omega]
      rfl

theorem within_whole (m n : Nat) (hm : m < 2 ^ 53) (hn : n < 2 ^ 53) : withinB m (floatOfInt FloatKind.f64 n) = decide (m ≤ n) := by
  obtain ⟨k, p, h1, h2, h3⟩ := read_whole m hm
  obtain ⟨l, q, h4, h5, h6⟩ := read_whole n hn
  have h7 : withinB m (floatOfInt FloatKind.f64 n) = leD (FloatKind.f64.format.read (floatOfInt FloatKind.f64 m)) (FloatKind.f64.format.read (floatOfInt FloatKind.f64 n)) := rfl
  rw [h7, h1, h4]
  have h8 := leD_num (s := false) (t := false) (m := k) (n := l) (-1074) h2 h5
  have h9 : signed false k (p - -1074).toNat = ((m * unitF : Nat) : Int) := by
    unfold signed
    rw [Nat.shiftLeft_eq, h3]; rfl
  have h10 : signed false l (q - -1074).toNat = ((n * unitF : Nat) : Int) := by
    unfold signed
    rw [Nat.shiftLeft_eq, h6]; rfl
  rw [h9, h10] at h8
  have h11 : ((m * unitF : Nat) : Int) ≤ ((n * unitF : Nat) : Int) ↔ m ≤ n := by
    rw [Int.ofNat_le]
    exact Nat.mul_le_mul_right_iff unitF_pos
  by_cases hle : m ≤ n
  · rw [h8.2 (h11.2 hle)]; simp [hle]
  · have : leD (.number false k p) (.number false l q) = false := by
      cases hq : leD (.number false k p) (.number false l q) with
      | false => rfl
      | true => exact absurd (h11.1 (h8.1 hq)) hle
    rw [this]; simp [hle]
end Go.Proofs.YtfpiogaakblpeaaDoor

namespace Go.Proofs.YtfpiogaakblpeaaDoor
open Go.RowKit

/-- no allowance stops it -/
def NoLim {α : Type} : Res α → Prop
  | .bad _ .deep => False
  | .bad _ .nodes => False
  | _ => True

theorem kidsM_free {l : List Tok} {f : Nat → Nat → Res DT} (hm : ∀ k n, k ≤ l.length → Moves l k n (f k n)) {k0 : Nat} (h : ∀ k n, k0 ≤ k → k ≤ l.length → n ≤ k → NoLim (f k n)) :
    ∀ (c k n : Nat) (acc : List DT), k0 ≤ k → k ≤ l.length → n ≤ k → NoLim (kidsM f c k n acc)
  | 0, k, n, acc, _, _, _ => by simp [kidsM, NoLim]
  | c + 1, k, n, acc, hk, hl, hn => by
    have h1 := hm k n hl
    have h2 := h k n hk hl hn
    unfold kidsM
    cases hq : f k n with
    | bad k' y => rw [hq] at h2; cases y <;> simp [NoLim] at h2 ⊢
    | ok d k' n' =>
      rw [hq] at h1
      simp only [Moves] at h1
      exact kidsM_free hm h c k' n' _ (by omega) (by omega) (by omega)
theorem closeM_free {l : List Tok} {r i : Int} {x : Res (List DT)} (h : NoLim x) : NoLim (closeM l r i x) := by
  cases x with
  | bad k y => cases y <;> simp [closeM, NoLim] at h ⊢
  | ok ks k n =>
    simp only [closeM]
    split <;> simp [NoLim]
theorem derivM_free (E : PEnv) (hd : ∀ n, n ≤ E.l.length + 1 → E.dOK n = true) (hn : ∀ n, n ≤ E.l.length + 1 → E.nOK n = true) :
    ∀ (f deep k n : Nat), k ≤ E.l.length → deep ≤ k + 1 → n ≤ k → NoLim (derivM E f deep k n)
  | 0, _, _, _, _, _, _ => by simp [derivM, NoLim]
  | f + 1, deep, k, n, hk, hdk, hnk => by
    unfold derivM
    by_cases h1 : kindAt E.l k ≠ 1
    · rw [if_pos h1]; simp [NoLim]
    have hlt := kindAt_lt (l := E.l) (k := k) (by omega)
    rw [if_neg h1, if_neg (by rw [hd deep (by omega)]; simp), if_neg (by rw [hn (n + 1) (by omega)]; simp)]
    by_cases h4 : kindAt E.l (k + 1) ≠ 3 ∨ ruleI (textAt E.l (k + 1)) = 0
    · rw [if_pos h4]; simp [NoLim]
    have hlt2 := kindAt_lt (l := E.l) (k := k + 1) (by omega)
    rw [if_neg h4]
    by_cases h5 : ruleI (textAt E.l (k + 1)) = 1 ∨ ruleI (textAt E.l (k + 1)) = 2
    · rw [if_pos h5]
      split
      · simp [NoLim]
      · exact closeM_free (by simp [NoLim])
    · rw [if_neg h5]
      refine closeM_free ?_
      exact kidsM_free (l := E.l) (k0 := k + 2) (fun k n h => derivM_moves E f (deep + 1) k n h) (fun k' n' a b c => derivM_free E hd hn f (deep + 1) k' n' b (by omega) c) _ _ _ _ (by omega) (by omega) (by omega)
theorem ctxM_free {l : List Tok} {f : Nat → Nat → Res DT} (hm : ∀ k n, k ≤ l.length → Moves l k n (f k n)) (h : ∀ k n, k ≤ l.length → n ≤ k → NoLim (f k n)) :
    ∀ (c k n : Nat) (acc : List DT), k ≤ l.length → n ≤ k → NoLim (ctxM f l c k n acc) ∧ MovesK l k n (ctxM f l c k n acc)
  | 0, k, n, acc, hl, _ => by simp [ctxM, NoLim, MovesK, hl]
  | c + 1, k, n, acc, hl, hn => by
    have h1 := hm k n hl
    have h2 := h k n hl hn
    unfold ctxM
    by_cases h3 : kindAt l k = 2
    · rw [if_pos h3]; simp [NoLim, MovesK, hl]
    rw [if_neg h3]
    cases hq : f k n with
    | bad k' y => rw [hq] at h2 h1; refine ⟨?_, h1⟩; cases y <;> simp [NoLim] at h2 ⊢
    | ok d k' n' =>
      rw [hq] at h1
      simp only [Moves] at h1
      obtain ⟨a, b⟩ := ctxM_free hm h c k' n' (acc ++ [d]) (by omega) (by omega)
      refine ⟨a, ?_⟩
      revert b
      dsimp only
      cases ctxM f l c k' n' (acc ++ [d]) with
      | ok a k2 n2 => simp only [MovesK]; omega
      | bad k2 y => simp only [MovesK]; omega
theorem restM_free {l : List Tok} {f : Nat → Nat → Res DT} (h : ∀ k n, k ≤ l.length → n ≤ k → NoLim (f k n)) {k n : Nat} {x : Res (List DT)} (hx : NoLim x) (hk : ∀ cs k n, x = .ok cs k n → k + 1 ≤ l.length ∧ n ≤ k) : NoLim (restM f l x) := by
  cases x with
  | bad k y => cases y <;> simp [restM, NoLim] at hx ⊢
  | ok cs k n =>
    have h1 := hk cs k n rfl
    have h2 := h (k + 1) n h1.1 (by omega)
    unfold restM
    dsimp only
    cases hq : f (k + 1) n with
    | bad k' y => rw [hq] at h2; cases y <;> simp [NoLim] at h2 ⊢
    | ok d k' n' =>
      dsimp only
      split
      · split <;> simp [NoLim]
      · simp [NoLim]
theorem fileM_free (E : PEnv) (hd : ∀ n, n ≤ E.l.length + 1 → E.dOK n = true) (hn : ∀ n, n ≤ E.l.length + 1 → E.nOK n = true) : NoLim (fileM E) := by
  unfold fileM
  by_cases h1 : kindAt E.l 0 ≠ 1
  · rw [if_pos h1]; simp [NoLim]
  rw [if_neg h1]
  by_cases h2 : kindAt E.l 1 ≠ 3 ∨ textAt E.l 1 ≠ wordFile
  · rw [if_pos h2]; simp [NoLim]
  rw [if_neg h2]
  by_cases h3 : kindAt E.l 2 ≠ 1
  · rw [if_pos h3]; simp [NoLim]
  rw [if_neg h3]
  have hlt := kindAt_lt (l := E.l) (k := 2) (by omega)
  have hm := fun k n h => derivM_moves E (E.l.length + 1) 1 k n h
  have hf := fun k n (h : k ≤ E.l.length) (h2 : n ≤ k) => derivM_free E hd hn (E.l.length + 1) 1 k n h (by omega) h2
  obtain ⟨a, b⟩ := ctxM_free hm hf (E.l.length + 1) 3 0 [] (by omega) (by omega)
  refine restM_free (k := 0) (n := 0) hf a ?_
  intro cs k n hq
  rw [hq] at b
  simp only [MovesK] at b
  have hcount := fun k n d k' n' h => derivM_count E (E.l.length + 1) 1 k n d k' n' h
  obtain ⟨more, _, _, h2⟩ := ctxM_count hcount _ _ _ _ _ _ _ hq
  have := kindAt_lt (l := E.l) (k := k) (by omega)
  omega

/-! ### the allowance 2^40 -/
theorem two40 : floatOfInt FloatKind.f64 ((1099511627776 : Nat) : Int) = 4787326403894837248 := by kernel_rfl
theorem within40 (m : Nat) (h : m ≤ 1099511627776) : withinB m 4787326403894837248 = true := by
  rw [← two40, within_whole m _ (by omega) (by omega)]
  simpa using h
theorem whole_free {text : List UInt8} (hz : text.length ≤ 1000000) : NoLim (wholeM (fun m => withinB m 4787326403894837248) (fun m => withinB m 4787326403894837248) text) := by
  have hl := lexL_length text
  have h := fileM_free ⟨(lexL text).1, fun m => withinB m 4787326403894837248, fun m => withinB m 4787326403894837248⟩ (fun n hn => within40 n (by simp only at hn; omega)) (fun n hn => within40 n (by simp only at hn; omega))
  unfold wholeM
  revert h
  cases fileM ⟨(lexL text).1, fun m => withinB m 4787326403894837248, fun m => withinB m 4787326403894837248⟩ with
  | bad k y => exact fun h => h
  | ok x k n => intro _; dsimp only; split <;> simp [NoLim]
theorem whole_bad40 {text : List UInt8} (hz : text.length ≤ 1000000) {k : Nat} {y : Why} (h : wholeM (fun m => withinB m 4787326403894837248) (fun m => withinB m 4787326403894837248) text = .bad k y) : y = .parse := by
  have h1 := whole_free hz
  rw [h] at h1
  cases y with
  | parse => rfl
  | deep => exact h1.elim
  | nodes => exact h1.elim

/-! ### ParseLimits -/
theorem whole_lim {text : List UInt8} {dOK nOK : Nat → Bool} {cs : List DT} {d : DT} {k n : Nat} (h : wholeM dOK nOK text = .ok (cs, d) k n) (D N : Nat) (hD : D ≤ 1099511627776) (hN : N ≤ 1099511627776) :
    (max (deepDs cs) (deepD d) ≤ D ∧ nodesDs cs + nodesD d ≤ N → ∃ k n, wholeM (fun m => withinB m (floatOfInt FloatKind.f64 D)) (fun m => withinB m (floatOfInt FloatKind.f64 N)) text = .ok (cs, d) k n) ∧
    (¬ (max (deepDs cs) (deepD d) ≤ D ∧ nodesDs cs + nodesD d ≤ N) → ∃ k, (wholeM (fun m => withinB m (floatOfInt FloatKind.f64 D)) (fun m => withinB m (floatOfInt FloatKind.f64 N)) text = .bad k .deep ∧ D < max (deepDs cs) (deepD d)) ∨ (wholeM (fun m => withinB m (floatOfInt FloatKind.f64 D)) (fun m => withinB m (floatOfInt FloatKind.f64 N)) text = .bad k .nodes ∧ N < nodesDs cs + nodesD d)) := by
  obtain ⟨h1, h2⟩ := wholeM_ok h
  have h3 := fileM_lim (D := D) (N := N) (E := ⟨(lexL text).1, dOK, nOK⟩) (F := ⟨(lexL text).1, fun m => withinB m (floatOfInt FloatKind.f64 D), fun m => withinB m (floatOfInt FloatKind.f64 N)⟩) ⟨rfl, fun n hn => within_whole n D (by omega) (by omega), fun n hn => within_whole n N (by omega) (by omega)⟩ h1
  simp only [Lim] at h3
  constructor
  · intro h4
    have h5 := h3.1 (by omega)
    unfold wholeM
    rw [h5]
    dsimp only
    rw [if_pos h2]
    exact ⟨_, _, rfl⟩
  · intro h4
    rcases h3.2 (by omega) with ⟨j, h5, h6⟩ | ⟨j, h5, h6⟩
    · refine ⟨j, .inl ⟨?_, by omega⟩⟩
      unfold wholeM
      rw [h5]
    · refine ⟨j, .inr ⟨?_, by omega⟩⟩
      unfold wholeM
      rw [h5]

/-! ### ParseBetween -/
theorem takeWhile_all {p : UInt8 → Bool} : ∀ (a : List UInt8), a.all p = true → a.takeWhile p = a
  | [], _ => rfl
  | c :: a, h => by
    rw [List.all_cons, Bool.and_eq_true] at h
    rw [List.takeWhile_cons, if_pos h.1, takeWhile_all a h.2]
theorem dropWhile_all {p : UInt8 → Bool} : ∀ (a : List UInt8), a.all p = true → a.dropWhile p = []
  | [], _ => rfl
  | c :: a, h => by
    rw [List.all_cons, Bool.and_eq_true] at h
    rw [List.dropWhile_cons, if_pos h.1, dropWhile_all a h.2]
theorem oneL_self : ∀ (r : List UInt8) (kind : Nat) (text : List UInt8), oneL r = (kind, text, true) → oneL text = (kind, text, true) ∧ skip false text = text
  | [], kind, text, h => by simp [oneL] at h
  | d :: r, kind, text, h => by
    by_cases h1 : d.toNat = 40
    · simp only [oneL, if_pos h1, Prod.mk.injEq] at h
      obtain ⟨rfl, rfl, _⟩ := h
      exact ⟨by simp [oneL], by simp [skip]⟩
    by_cases h2 : d.toNat = 41
    · simp only [oneL, if_neg h1, if_pos h2, Prod.mk.injEq] at h
      obtain ⟨rfl, rfl, _⟩ := h
      exact ⟨by simp [oneL], by simp [skip]⟩
    by_cases h3 : isLetter d.toNat = true
    · simp only [oneL, if_neg h1, if_neg h2, if_pos h3, Prod.mk.injEq] at h
      obtain ⟨rfl, rfl, h5⟩ := h
      have h4 := letter_not_paren h3
      refine ⟨?_, ?_⟩
      · simp only [oneL, if_neg h1, if_neg h2, if_pos h3, takeWhile_all _ (all_takeWhile r), h5]
      · simp only [skip]
        rw [if_neg (by omega), if_neg (by omega)]
    by_cases h4 : isDigit d.toNat = true
    · simp only [oneL, if_neg h1, if_neg h2, if_neg h3, if_pos h4, Prod.mk.injEq] at h
      obtain ⟨rfl, rfl, h5⟩ := h
      have h6 : 48 ≤ d.toNat ∧ d.toNat ≤ 57 := by simpa [isDigit] using h4
      refine ⟨?_, ?_⟩
      · simp only [oneL, if_neg h1, if_neg h2, if_neg h3, if_pos h4, takeWhile_all _ (all_takeWhile r), dropWhile_all _ (all_takeWhile r)]
        rw [Bool.and_eq_true] at h5
        rw [h5.1]
        rfl
      · simp only [skip]
        rw [if_neg (by omega), if_neg (by omega)]
    · simp [oneL, h1, h2, h3, h4] at h

/-- what stands alone -/
def Alone (X : List UInt8) (ts : List Tok) : Prop := lexE X = (ts.map eraseT, false)
theorem lexE_nil : lexE [] = ([], false) := by decide +kernel
theorem Joined.ends {X : List UInt8} {ts : List Tok} {t : Tok} {g : List UInt8} (h : Joined X ts) (ht : ∃ r, oneL r = (t.kind, t.text, true))
    (hg : ∃ c z, g = c :: z ∧ sep c) (hs : ∀ x, skip false (g ++ x) = skip false x) : Alone (X ++ g ++ t.text) (ts ++ [t]) := by
  obtain ⟨c1, z1, rfl, hc1⟩ := hg
  obtain ⟨r, hr⟩ := ht
  have h1 := h c1 (z1 ++ t.text) hc1
  have e1 : X ++ (c1 :: z1) ++ t.text = X ++ c1 :: (z1 ++ t.text) := by simp
  have e2 : c1 :: (z1 ++ t.text) = (c1 :: z1) ++ t.text := by simp
  unfold Alone
  rw [e1, h1, e2, lexE_skip _ _ (hs t.text)]
  obtain ⟨ho, hk⟩ := oneL_self r t.kind t.text hr
  have h2 := lexE_tok (text := t.text) (z := []) (kind := t.kind) (by rw [List.append_nil]; exact ho) (by rw [List.append_nil]; exact hk)
  rw [List.append_nil, lexE_nil] at h2
  rw [h2]
  simp [eraseT]
theorem Alone.nil : Alone [] [] := lexE_nil

theorem between_same {text X : List UInt8} {toks : List Tok} (h : lexL text = (toks, none)) (hX : Alone X toks) (dOK nOK : Nat → Bool) : wholeM dOK nOK X = wholeM dOK nOK text := by
  unfold Alone lexE eraseX at hX
  obtain ⟨h1, h2⟩ := Prod.mk.inj hX
  have h3 : (lexL X).2 = none := by simpa using h2
  have h4 := fileM_kt (l := (lexL X).1) (m := toks) h1 dOK nOK
  unfold wholeM
  rw [h4, h, h3]
end Go.Proofs.YtfpiogaakblpeaaDoor
