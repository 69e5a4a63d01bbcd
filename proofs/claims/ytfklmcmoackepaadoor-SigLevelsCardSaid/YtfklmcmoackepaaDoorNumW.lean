/- Walks of num.Put and num.Get. -/
import Derived.Test.YtfklmcmoackepaaDoorLexB
import Derived.Test.YtfklmcmoackepaaDoorShelf
import Derived.Lib.AppendIntMem
namespace Go.Proofs.YtfklmcmoackepaaDoor
open Go.RowKit

/-- the table of powers of ten lies where the library reads it -/
def Tab (w : World) : Prop := Lib.TabIs Tryd.prog w "internal/strconv.uint64pow10" .u64 Lib.pow10Tab
theorem Tab.below {w w' : World} (h : Tab w) (hb : Below w.heap.size w w') : Tab w' := Lib.tabBelow_of_tabIs h w' hb

theorem below_grow (w : World) (k : Nat) (os : Array Obj) : Below w.heap.size w (Sort.grow (w.drewN k) os) :=
  ⟨rfl, rfl, rfl, by simp [Sort.grow, World.drewN], fun i hi => by
    simp only [Sort.grow, World.drewN]
    rw [Array.getElem?_append_left hi]⟩

theorem put_any (n : Int) (w : World) (h0 : -9223372036854775808 ≤ n) (h1 : n ≤ 9223372036854775807) (ht : Tab w) :
    Calls Tryd.prog 56 #[.int .i64 n] w fun e w' => e = .returned (.string ⟨(Lib.itoa n).toArray⟩) ∧ Below w.heap.size w w' := by
  have HT := Lib.hid ht
  clear ht
  go_enter Tryd.func56, Tryd.ntmps56
  go_wp2_with fail
  refine (Tryd.strconv_Itoa n h0 h1 _ HT.out).mono ?_
  rintro e w' ⟨rfl, k, os, hw⟩
  have HW := Lib.hid hw
  clear hw
  go_wp2
  go_ret
  exact ⟨rfl, by rw [HW.out]; exact below_grow _ _ _⟩

/-- a text of digits; its value -/
def digs (l : List UInt8) : Bool := l.all fun c => isDigit c.toNat
def valL (l : List UInt8) : Nat := l.foldl (fun n c => 10 * n + (c.toNat - 48)) 0
/-- num.Get -/
def getN (l : List UInt8) : Option Nat :=
  if l.length = 0 ∨ 7 < l.length then none
  else if digs l = true then (if 1000000 < valL l ∨ Lib.itoa (valL l) ≠ l then none else some (valL l)) else none

theorem valL_snoc (l : List UInt8) (c : UInt8) : valL (l ++ [c]) = 10 * valL l + (c.toNat - 48) := by simp [valL]
theorem digs_snoc (l : List UInt8) (c : UInt8) : digs (l ++ [c]) = (digs l && isDigit c.toNat) := by simp [digs]
theorem valL_go (l : List UInt8) : ∀ n, digs l = true → l.foldl (fun n c => 10 * n + (c.toNat - 48)) n < (n + 1) * 10 ^ l.length := by
  induction l with
  | nil => intro n _; simp
  | cons c l ih =>
    intro n h
    simp only [digs, List.all_cons, Bool.and_eq_true] at h
    have h1 := h.1
    simp [isDigit] at h1
    refine Nat.lt_of_lt_of_le (ih _ h.2) ?_
    rw [List.length_cons, Nat.pow_succ, Nat.mul_comm (10 ^ _) 10, ← Nat.mul_assoc]
    exact Nat.mul_le_mul_right _ (by show 10 * n + (c.toNat - 48) + 1 ≤ _; omega)
theorem valL_lt (l : List UInt8) (h : digs l = true) : valL l < 10 ^ l.length := by have := valL_go l 0 h; rw [Nat.zero_add, Nat.one_mul] at this; exact this
theorem take_snoc (s : ByteArray) (k : Nat) (h : k < s.size) : s.data.toList.take (k + 1) = s.data.toList.take k ++ [s[k]] := by
  rw [List.take_succ_eq_append_getElem (by simpa using h)]; rfl
theorem digs_take (l : List UInt8) (k : Nat) (h : digs l = true) : digs (l.take k) = true := by
  simp only [digs, List.all_eq_true] at *
  intro x hx; exact h x (List.mem_of_mem_take hx)

def getVal (l : List UInt8) : Value := .tuple #[.int .i64 ((getN l).getD 0), .bool (getN l).isSome]

set_option maxHeartbeats 400000 in
theorem get_any (s : ByteArray) (w : World) (hs : s.size ≤ maxLen) (ht : Tab w) :
    Calls Tryd.prog 45 #[.string s] w fun e w' => e = .returned (getVal s.data.toList) ∧ Below w.heap.size w w' := by
  unfold maxLen at hs
  have HT := Lib.hid ht
  clear ht
  by_cases h0 : s.size = 0
  · have h0' : ((s.size : Int) == 0) = true := by simp [h0]
    have H0 := Lib.hid h0
    clear h0
    go_enter Tryd.func45, Tryd.ntmps45
    go_wp2
    go_ret2
    exact ⟨by simp [getVal, getN, H0.out], Below.refl _ _⟩
  · have h0' : ((s.size : Int) == 0) = false := by simp [h0]
    by_cases h7 : 7 < s.size
    · have h7' : (7 : Int) < (s.size : Int) := by omega
      go_enter Tryd.func45, Tryd.ntmps45
      go_wp2
      go_ret2
      exact ⟨by simp [getVal, getN, h7], Below.refl _ _⟩
    · have h7' : ¬ (7 : Int) < (s.size : Int) := by omega
      go_enter Tryd.func45, Tryd.ntmps45
      go_wp2
      go_loop [4, 16] (fun n i => ∃ k : Nat, k ≤ s.size ∧ i = .int .i64 k ∧ n = .int .i64 (valL (s.data.toList.take k)) ∧ digs (s.data.toList.take k) = true) (fun _ i => s.size - (intOf i).toNat)
      case atStart => exact ⟨0, Nat.zero_le _, rfl, rfl, rfl⟩
      case round =>
        obtain ⟨k, hk, rfl, rfl, hdig⟩ := hrel
        have hv := valL_lt _ hdig
        have hv7 : valL (s.data.toList.take k) < 10000000 := by
          refine Nat.lt_of_lt_of_le hv ?_
          have : (s.data.toList.take k).length ≤ 7 := by simp; omega
          exact Nat.pow_le_pow_right (by omega) this
        clear hv
        have HD := Lib.hid hdig
        clear hdig
        by_cases hlt : k < s.size
        · have hts := take_snoc s k hlt
          have HS := Lib.hid hts
          clear hts
          by_cases hc : 48 ≤ s[k].toNat ∧ s[k].toNat ≤ 57
          · have hc1 : ¬ (s[k].toNat : Int) < 48 := by omega
            have hc2 : ¬ 57 < (s[k].toNat : Int) := by omega
            go_wp2
            go_round
            case rel =>
              refine ⟨k + 1, by omega, by go_num, ?_, ?_⟩
              · rw [HS.out, valL_snoc]; congr 1; omega
              · rw [HS.out, digs_snoc, HD.out]; simp [isDigit]; omega
            case measure => simp [intOf]; omega
          · have hf : digs s.data.toList = false := by
              rw [Bool.eq_false_iff]
              intro hq
              have := digs_take _ (k + 1) hq
              rw [HS.out, digs_snoc] at this
              simp [isDigit] at this
              omega
            have HF := Lib.hid hf
            clear hf
            have hc1 : (s[k].toNat : Int) < 48 ∨ 57 < (s[k].toNat : Int) := by omega
            clear hc
            go_wp2
            all_goals go_ret2
            all_goals exact ⟨by simp [getVal, getN, HF.out], Below.refl _ _⟩
        · have hk2 : k = s.size := by omega
          subst hk2
          have hall : s.data.toList.take s.size = s.data.toList := List.take_of_length_le (by simp)
          have HA := Lib.hid hall
          clear hall
          by_cases hm : 1000000 < valL s.data.toList
          · have hm' : (1000000 : Int) < (valL (s.data.toList.take s.size) : Int) := by rw [HA.out]; omega
            go_wp2
            go_ret2
            exact ⟨by simp [getVal, getN, hm], Below.refl _ _⟩
          · have hm' : ¬ (1000000 : Int) < (valL (s.data.toList.take s.size) : Int) := by rw [HA.out]; omega
            go_wp2_with fail
            refine (put_any _ _ (by omega) (by omega) HT.out).mono ?_
            rintro e w' ⟨rfl, hb⟩
            go_wp2
            · rename_i ht
              rw [HA.out, ByteArray.toList_eq] at ht
              go_ret2
              have hne : Lib.itoa (valL s.data.toList) ≠ s.data.toList := by simpa using ht
              exact ⟨by simp [getVal, getN, hne], hb⟩
            · rename_i ht
              rw [HA.out, ByteArray.toList_eq] at ht
              go_ret2
              have hne : Lib.itoa (valL s.data.toList) = s.data.toList := by simpa using ht
              have hd := HD.out
              rw [HA.out] at hd
              have hsl : s.data.toList.length = s.size := by simp
              have e1 : getN s.data.toList = some (valL s.data.toList) := by
                unfold getN
                rw [if_neg (by omega), if_pos hd, if_neg (by rw [hne]; simp; omega)]
              exact ⟨by simp [getVal, e1, HA.out], hb⟩
end Go.Proofs.YtfklmcmoackepaaDoor
