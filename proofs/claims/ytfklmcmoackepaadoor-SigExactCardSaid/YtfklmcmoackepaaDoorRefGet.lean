/- Walk of transhipref01.Get; that it answers as num.Get. -/
import Derived.Test.YtfklmcmoackepaaDoorNumW
namespace Go.Proofs.YtfklmcmoackepaaDoor
open Go.RowKit

def getR (l : List UInt8) : Option Nat :=
  if l.length = 0 ∨ 7 < l.length ∨ (1 < l.length ∧ l.head? = some 48) then none
  else if digs l = true then (if 1000000 < valL l then none else some (valL l)) else none

theorem head_append {α : Type} (a b : List α) (h : a ≠ []) : (a ++ b).head? = a.head? := by cases a <;> simp_all

theorem dec_head (u : Nat) (h : 10 ≤ u) : (Lib.decDigits u).head? ≠ some 48 := by
  induction u using Nat.strongRecOn with
  | _ u ih =>
    rw [Lib.decDigits, dif_neg (by omega)]
    by_cases h10 : u / 10 < 10
    · rw [Lib.decDigits_one h10]
      simp only [List.cons_append, List.head?_cons]
      intro hc
      have := Option.some.inj hc
      have h2 := congrArg UInt8.toNat this
      simp [UInt8.toNat_ofNat'] at h2
      omega
    · have h2 := ih (u / 10) (by omega) (by omega)
      have hne : Lib.decDigits (u / 10) ≠ [] := by
        intro hc; have := congrArg List.length hc; rw [Lib.decDigits_length] at this; have := Lib.nDigits_pos (u / 10); simp at *; omega
      rw [head_append _ _ hne]
      exact h2

theorem snoc_of {α : Type} (l : List α) (h : l ≠ []) : ∃ a b, l = a ++ [b] := ⟨l.dropLast, l.getLast h, (List.dropLast_concat_getLast h).symm⟩

theorem val_pos : ∀ (k : Nat) (l : List UInt8), l.length = k → l ≠ [] → digs l = true → l.head? ≠ some 48 → 0 < valL l
  | 0, l, hl, hne, _, _ => absurd (List.eq_nil_of_length_eq_zero hl) hne
  | k + 1, l, hl, hne, hd, hh => by
    obtain ⟨a, b, rfl⟩ := snoc_of l hne
    rw [valL_snoc]
    rw [digs_snoc, Bool.and_eq_true] at hd
    by_cases ha : a = []
    · subst ha
      have h2 := hd.2
      simp [isDigit] at h2
      simp at hh
      have : b.toNat ≠ 48 := fun hc => hh (UInt8.toNat_inj.1 hc)
      omega
    · have := val_pos k a (by simpa using hl) ha hd.1 (by rw [head_append _ _ ha] at hh; exact hh)
      omega

theorem ofNat_digit (b : UInt8) (h : isDigit b.toNat = true) : UInt8.ofNat (48 + (b.toNat - 48)) = b := by
  simp [isDigit] at h
  apply UInt8.toNat_inj.1
  simp [UInt8.toNat_ofNat']
  omega

theorem dec_val : ∀ (k : Nat) (l : List UInt8), l.length = k → l ≠ [] → digs l = true → (l.length = 1 ∨ l.head? ≠ some 48) → Lib.decDigits (valL l) = l
  | 0, l, hl, hne, _, _ => absurd (List.eq_nil_of_length_eq_zero hl) hne
  | k + 1, l, hl, hne, hd, hh => by
    obtain ⟨a, b, rfl⟩ := snoc_of l hne
    rw [digs_snoc, Bool.and_eq_true] at hd
    have hb := hd.2
    have hb2 := hd.2
    simp [isDigit] at hb2
    rw [valL_snoc]
    by_cases ha : a = []
    · subst ha
      rw [Lib.decDigits_one (by simp [valL]; omega)]
      simp [valL, ofNat_digit b hb]
    · have hh2 : a.head? ≠ some 48 := by
        rcases hh with hh | hh
        · have : a.length ≠ 0 := by simpa using ha
          rw [List.length_append, List.length_singleton] at hh; omega
        · rw [head_append _ _ ha] at hh; exact hh
      have ih := dec_val k a (by simpa using hl) ha hd.1 (.inr hh2)
      have hp := val_pos k a (by simpa using hl) ha hd.1 hh2
      rw [Lib.decDigits, dif_neg (by omega)]
      rw [show (10 * valL a + (b.toNat - 48)) / 10 = valL a by omega, show (10 * valL a + (b.toNat - 48)) % 10 = b.toNat - 48 by omega, ih, ofNat_digit b hb]

theorem getN_eq_getR (l : List UInt8) : getN l = getR l := by
  unfold getN getR
  by_cases h1 : l.length = 0 ∨ 7 < l.length
  · rw [if_pos h1, if_pos (by omega)]
  rw [if_neg h1]
  have hne : l ≠ [] := by intro h; subst h; simp at h1
  by_cases hd : digs l = true
  · rw [if_pos hd]
    by_cases hz : 1 < l.length ∧ l.head? = some 48
    · have h2 : l.length = 0 ∨ 7 < l.length ∨ (1 < l.length ∧ l.head? = some 48) := Or.inr (Or.inr hz)
      rw [if_pos h2]
      have h3 : Lib.itoa (valL l) ≠ l := by
        rw [Lib.itoa_nonneg]
        intro hc
        by_cases h10 : valL l < 10
        · rw [Lib.decDigits_one h10] at hc
          have := congrArg List.length hc
          simp at this; omega
        · have := dec_head (valL l) (by omega)
          rw [hc] at this
          exact this hz.2
      have h4 : 1000000 < valL l ∨ Lib.itoa (valL l) ≠ l := Or.inr h3
      rw [if_pos h4]
    · have h2 : ¬ (l.length = 0 ∨ 7 < l.length ∨ (1 < l.length ∧ l.head? = some 48)) := by
        rintro (h | h | h)
        · exact h1 (Or.inl h)
        · exact h1 (Or.inr h)
        · exact hz h
      rw [if_neg h2, if_pos hd]
      have h3 : Lib.itoa (valL l) = l := by
        rw [Lib.itoa_nonneg]
        refine dec_val _ l rfl hne hd ?_
        by_cases h1' : l.length = 1
        · exact Or.inl h1'
        · refine Or.inr fun hc => hz ⟨by omega, hc⟩
      by_cases hm : 1000000 < valL l
      · rw [if_pos hm, if_pos (Or.inl hm)]
      · rw [if_neg hm, if_neg (by rintro (h | h); exact hm h; exact h h3)]
  · rw [if_neg hd]
    split
    · rfl
    · rfl

def getRVal (l : List UInt8) : Value := .tuple #[.int .i64 ((getR l).getD 0), .bool (getR l).isSome]

theorem head_of (s : ByteArray) (h : 0 < s.size) : s.data.toList.head? = some s[0] := by
  have := drop_cons s 0 h
  rw [List.drop_zero] at this
  rw [this]; rfl

set_option maxHeartbeats 400000 in
/-- the loop of transhipref01.Get, behind the tests on the length -/
theorem refget_any (s : ByteArray) (w : World) (hs : s.size ≤ maxLen) :
    Calls Tryd.prog 35 #[.string s] w fun e w' => e = .returned (getRVal s.data.toList) ∧ w = w' := by
  unfold maxLen at hs
  have hsl : s.data.toList.length = s.size := by simp
  have HSL := Lib.hid hsl
  clear hsl
  by_cases h0 : s.size = 0
  · have h0' : ((s.size : Int) == 0) = true := by simp [h0]
    have H0 := Lib.hid h0
    clear h0
    go_enter Tryd.func35, Tryd.ntmps35
    go_wp2
    go_ret2
    exact ⟨by simp [getRVal, getR, H0.out], rfl⟩
  have h0' : ((s.size : Int) == 0) = false := by simp [h0]
  by_cases h7 : 7 < s.size
  · have h7' : (7 : Int) < (s.size : Int) := by omega
    go_enter Tryd.func35, Tryd.ntmps35
    go_wp2
    go_ret2
    exact ⟨by simp [getRVal, getR, h7], rfl⟩
  have h7' : ¬ (7 : Int) < (s.size : Int) := by omega
  have hpos : 0 < s.size := by omega
  have hd := head_of s hpos
  have HD0 := Lib.hid hd
  clear hd
  by_cases hz : 1 < s.size ∧ s[0].toNat = 48
  · have hz1 : (1 : Int) < (s.size : Int) := by omega
    have hz2 : ((s[0].toNat : Int) == 48) = true := by simp; omega
    have hR : getR s.data.toList = none := by
      unfold getR
      rw [if_pos]
      refine Or.inr (Or.inr ⟨by rw [HSL.out]; omega, ?_⟩)
      rw [HD0.out]
      exact congrArg some (UInt8.toNat_inj.1 hz.2)
    have HR := Lib.hid hR
    clear hR hz
    go_enter Tryd.func35, Tryd.ntmps35
    go_wp2
    go_ret2
    exact ⟨by simp [getRVal, HR.out], rfl⟩
  have hR : getR s.data.toList = if digs s.data.toList = true then (if 1000000 < valL s.data.toList then none else some (valL s.data.toList)) else none := by
    unfold getR
    rw [if_neg]
    rw [HSL.out, HD0.out]
    rintro (h | h | ⟨h, h2⟩)
    · omega
    · omega
    · exact hz ⟨h, by rw [Option.some.inj h2]; rfl⟩
  have HR := Lib.hid hR
  clear hR
  have hz1 : ¬ (1 : Int) < (s.size : Int) ∨ ((s[0].toNat : Int) == 48) = false := by
    by_cases h : 1 < s.size
    · right; simp; intro hc; exact hz ⟨h, by omega⟩
    · left; omega
  clear hz
  rcases hz1 with hz1 | hz1
  all_goals
    go_enter Tryd.func35, Tryd.ntmps35
    go_wp2_with fail
    all_goals
      go_loop [4, 5] (fun n i => ∃ k : Nat, k ≤ s.size ∧ i = .int .i64 k ∧ n = .int .i64 (valL (s.data.toList.take k)) ∧ digs (s.data.toList.take k) = true) (fun _ i => s.size - (intOf i).toNat)
      case atStart => exact ⟨0, Nat.zero_le _, rfl, rfl, rfl⟩
      case round =>
        obtain ⟨k, hk, rfl, rfl, hdig⟩ := hrel
        have hv := valL_lt _ hdig
        have hv7 : valL (s.data.toList.take k) < 10000000 := by
          refine Nat.lt_of_lt_of_le hv ?_
          have : (s.data.toList.take k).length ≤ 7 := by simp; omega
          exact Nat.pow_le_pow_right (by omega) this
        clear hv
        have HD := Lib.hid hdig
        clear hdig
        by_cases hlt : k < s.size
        · have hts := take_snoc s k hlt
          have HS := Lib.hid hts
          clear hts
          by_cases hc : 48 ≤ s[k].toNat ∧ s[k].toNat ≤ 57
          · have hc1 : ¬ (s[k].toNat : Int) < 48 := by omega
            have hc2 : ¬ 57 < (s[k].toNat : Int) := by omega
            go_wp2
            go_round
            case rel =>
              refine ⟨k + 1, by omega, by go_num, ?_, ?_⟩
              · rw [HS.out, valL_snoc]; congr 1; omega
              · rw [HS.out, digs_snoc, HD.out]; simp [isDigit]; omega
            case measure => simp [intOf]; omega
          · have hf : digs s.data.toList = false := by
              rw [Bool.eq_false_iff]
              intro hq
              have := digs_take _ (k + 1) hq
              rw [HS.out, digs_snoc] at this
              simp [isDigit] at this
              omega
            have HF := Lib.hid hf
            clear hf
            have hc1 : (s[k].toNat : Int) < 48 ∨ 57 < (s[k].toNat : Int) := by omega
            clear hc
            go_wp2
            all_goals go_ret2
            all_goals exact ⟨by simp [getRVal, HR.out, HF.out], rfl⟩
        · have hk2 : k = s.size := by omega
          subst hk2
          have hall : s.data.toList.take s.size = s.data.toList := List.take_of_length_le (by simp)
          have HA := Lib.hid hall
          clear hall
          by_cases hm : 1000000 < valL s.data.toList
          · have hm' : (1000000 : Int) < (valL (s.data.toList.take s.size) : Int) := by rw [HA.out]; omega
            go_wp2
            go_ret2
            exact ⟨by simp [getRVal, HR.out, hm], rfl⟩
          · have hm' : ¬ (1000000 : Int) < (valL (s.data.toList.take s.size) : Int) := by rw [HA.out]; omega
            go_wp2
            go_ret2
            have hd := HD.out
            rw [HA.out] at hd
            exact ⟨by simp [getRVal, HR.out, hm, hd, HA.out], rfl⟩
end Go.Proofs.YtfklmcmoackepaaDoor
