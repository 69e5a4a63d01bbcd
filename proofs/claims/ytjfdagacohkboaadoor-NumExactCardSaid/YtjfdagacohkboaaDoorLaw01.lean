/- Walks of transhiplaw01. -/
import Derived.Test.YtjfdagacohkboaaDoorRefPut
import Derived.Test.YtjfdagacohkboaaDoorNumP
namespace Go.Proofs.YtjfdagacohkboaaDoor
open Go.RowKit

theorem refget_any' (s : ByteArray) (w : World) (hs : s.size ≤ maxLen) :
    Calls Tryd.prog 13 #[.string s] w fun e w' => e = .returned (getVal s.data.toList) ∧ w = w' := by
  refine (refget_any s w hs).mono ?_
  rintro e w' ⟨rfl, h⟩
  exact ⟨by unfold getRVal getVal; rw [getN_eq_getR], h⟩

theorem get_million (w : World) (ht : Tab w) :
    Calls Tryd.prog 12 #[.string { data := #[49, 48, 48, 48, 48, 48, 48] }] w fun e w' => e = .returned (.tuple #[.int .i64 1000000, .bool true]) ∧ Below w.heap.size w w' := by
  refine (get_any _ w (by decide) ht).mono ?_
  rintro e w' ⟨rfl, h⟩
  refine ⟨?_, h⟩
  have : getN [49, 48, 48, 48, 48, 48, 48] = some 1000000 := by rw [getN_eq_getR]; decide
  unfold getVal
  rw [show (ByteArray.mk #[49, 48, 48, 48, 48, 48, 48]).data.toList = [49, 48, 48, 48, 48, 48, 48] from rfl, this]
  rfl

theorem get_007 (w : World) (ht : Tab w) :
    Calls Tryd.prog 12 #[.string { data := #[48, 48, 55] }] w fun e w' => e = .returned (.tuple #[.int .i64 0, .bool false]) ∧ Below w.heap.size w w' := by
  refine (get_any _ w (by decide) ht).mono ?_
  rintro e w' ⟨rfl, h⟩
  refine ⟨?_, h⟩
  have : getN [48, 48, 55] = none := by rw [getN_eq_getR]; decide
  unfold getVal
  rw [show (ByteArray.mk #[48, 48, 55]).data.toList = [48, 48, 55] from rfl, this]
  rfl

theorem put_m40 (w : World) (ht : Tab w) :
    Calls Tryd.prog 14 #[.int .i64 (-40)] w fun e w' => e = .returned (.string { data := #[45, 52, 48] }) ∧ Below w.heap.size w w' := by
  refine (put_any _ w (by decide) (by decide) ht).mono ?_
  rintro e w' ⟨rfl, h⟩
  refine ⟨?_, h⟩
  have : Lib.itoa (-40) = [45, 52, 48] := by
    rw [show (-40 : Int) = -((40 : Nat) : Int) from rfl, Lib.itoa_neg 40 (by decide), Lib.decDigits_two (by decide) (by decide)]; rfl
  rw [this]

set_option maxHeartbeats 400000 in
theorem wakes01 (w : World) (ht : Tab w) :
    Calls Tryd.prog 16 #[] w fun e w' => e = .returned (.bool true) ∧ Below w.heap.size w w' := by
  have HT := Lib.hid ht
  clear ht
  go_enter Tryd.func16, Tryd.ntmps16
  go_wp2_with fail
  refine (get_million w HT.out).mono ?_
  rintro e w1 ⟨rfl, hb1⟩
  have HT1 := Lib.hid (HT.out.below hb1)
  go_wp2_with fail
  refine (get_007 w1 HT1.out).mono ?_
  rintro e w2 ⟨rfl, hb2⟩
  have HT2 := Lib.hid (HT1.out.below hb2)
  go_wp2_with fail
  refine (put_m40 w2 HT2.out).mono ?_
  rintro e w3 ⟨rfl, hb3⟩
  go_wp2
  go_ret
  exact ⟨rfl, (hb1.trans (hb2.mono hb1.size)).trans (hb3.mono (Nat.le_trans hb1.size hb2.size))⟩

set_option maxHeartbeats 400000 in
theorem numExact_walk (n : Int) (s : ByteArray) (w : World) (hs : s.size ≤ maxLen) (h0 : -9223372036854775808 ≤ n) (h1 : n ≤ 9223372036854775807) (ht : Tab w) :
    Calls Tryd.prog 3 #[.int .i64 n, .string s] w fun e w' => e = .returned (.bool true) ∧ Below w.heap.size w w' := by
  have HS := Lib.hid hs
  clear hs
  have HT := Lib.hid ht
  clear ht
  by_cases h100 : 100 < s.size
  · have h2 : (100 : Int) < (s.size : Int) := by omega
    go_enter Tryd.func3, Tryd.ntmps3
    go_wp2
    go_ret
    exact ⟨rfl, Below.refl _ _⟩
  have h2 : ¬ (100 : Int) < (s.size : Int) := by omega
  go_enter Tryd.func3, Tryd.ntmps3
  go_wp2_with fail
  refine (get_any s w HS.out HT.out).mono ?_
  rintro e w1 ⟨rfl, hb1⟩
  have HT1 := Lib.hid (HT.out.below hb1)
  unfold getVal
  go_wp2_with fail
  refine (refget_any' s w1 HS.out).mono ?_
  rintro e w1' ⟨rfl, rfl⟩
  unfold getVal
  go_wp2_with fail
  refine (put_any n w1 h0 h1 HT1.out).mono ?_
  rintro e w2 ⟨rfl, hb2⟩
  have HT2 := Lib.hid (HT1.out.below hb2)
  go_wp2_with fail
  refine (refput_any n w2 h0 h1).mono ?_
  rintro e w3 ⟨rfl, hb3⟩
  have HT3 := Lib.hid (HT2.out.below hb3)
  go_wp2_with fail
  refine (wakes01 w3 HT3.out).mono ?_
  rintro e w4 ⟨rfl, hb4⟩
  go_wp2
  go_ret
  have b2 := hb1.trans (hb2.mono hb1.size)
  have b3 := b2.trans (hb3.mono b2.size)
  exact ⟨rfl, b3.trans (hb4.mono b3.size)⟩

theorem itoa_size (n : Int) (h0 : -9223372036854775808 ≤ n) (h1 : n ≤ 9223372036854775807) : (ByteArray.mk (Lib.itoa n).toArray).size ≤ 21 := by
  have := Lib.itoa_length_le n h0 h1
  simpa [ByteArray.size] using this

set_option maxHeartbeats 400000 in
theorem numBack_walk (n : Int) (w : World) (h0 : -9223372036854775808 ≤ n) (h1 : n ≤ 9223372036854775807) (ht : Tab w) :
    Calls Tryd.prog 4 #[.int .i64 n] w fun e w' => e = .returned (.bool true) ∧ Below w.heap.size w w' := by
  have HT := Lib.hid ht
  clear ht
  have hsz := itoa_size n h0 h1
  have HSZ : Hid ((ByteArray.mk (Lib.itoa n).toArray).size ≤ maxLen) := Lib.hid (by unfold maxLen; omega)
  clear hsz
  have hg := getN_itoa n
  have HG := Lib.hid hg
  clear hg
  by_cases hn : n < 0 ∨ 1000000 < n
  · have H3 : Hid (getVal (ByteArray.mk (Lib.itoa n).toArray).data.toList = .tuple #[.int .i64 0, .bool false]) := Lib.hid (by
      unfold getVal
      rw [show (ByteArray.mk (Lib.itoa n).toArray).data.toList = Lib.itoa n by simp, HG.out, if_pos hn]
      rfl)
    go_enter Tryd.func4, Tryd.ntmps4
    go_wp2_with fail
    refine (put_any n w h0 h1 HT.out).mono ?_
    rintro e w1 ⟨rfl, hb1⟩
    have HT1 := Lib.hid (HT.out.below hb1)
    go_wp2_with fail
    refine (get_any _ w1 HSZ.out HT1.out).mono ?_
    rintro e w2 ⟨rfl, hb2⟩
    have HT2 := Lib.hid (HT1.out.below hb2)
    rw [H3.out]
    go_wp2_with fail
    all_goals
      refine (wakes01 w2 HT2.out).mono ?_
      rintro e w3 ⟨rfl, hb3⟩
      go_wp2
      go_ret
      have b2 := hb1.trans (hb2.mono hb1.size)
      exact ⟨rfl, b2.trans (hb3.mono b2.size)⟩
  · have H3 : Hid (getVal (ByteArray.mk (Lib.itoa n).toArray).data.toList = .tuple #[.int .i64 n, .bool true]) := Lib.hid (by
      unfold getVal
      rw [show (ByteArray.mk (Lib.itoa n).toArray).data.toList = Lib.itoa n by simp, HG.out, if_neg hn]
      simp
      omega)
    have hn1 : ¬ n < 0 := by omega
    have hn2 : ¬ 1000000 < n := by omega
    clear hn
    go_enter Tryd.func4, Tryd.ntmps4
    go_wp2_with fail
    refine (put_any n w h0 h1 HT.out).mono ?_
    rintro e w1 ⟨rfl, hb1⟩
    have HT1 := Lib.hid (HT.out.below hb1)
    go_wp2_with fail
    refine (get_any _ w1 HSZ.out HT1.out).mono ?_
    rintro e w2 ⟨rfl, hb2⟩
    have HT2 := Lib.hid (HT1.out.below hb2)
    rw [H3.out]
    go_wp2_with fail
    refine (wakes01 w2 HT2.out).mono ?_
    rintro e w3 ⟨rfl, hb3⟩
    go_wp2
    go_ret
    have b2 := hb1.trans (hb2.mono hb1.size)
    exact ⟨rfl, b2.trans (hb3.mono b2.size)⟩

set_option maxHeartbeats 400000 in
theorem numUnlike_walk (a b : Int) (w : World) (a0 : -9223372036854775808 ≤ a) (a1 : a ≤ 9223372036854775807) (b0 : -9223372036854775808 ≤ b) (b1 : b ≤ 9223372036854775807) (ht : Tab w) :
    Calls Tryd.prog 5 #[.int .i64 a, .int .i64 b] w fun e w' => e = .returned (.bool true) ∧ Below w.heap.size w w' := by
  have HT := Lib.hid ht
  clear ht
  have H1 : Hid ((Lib.itoa a == Lib.itoa b) = (a == b)) := Lib.hid (by
    rw [Bool.eq_iff_iff, beq_iff_eq, beq_iff_eq]
    exact ⟨itoa_inj, fun h => by rw [h]⟩)
  have hc : ∃ c, (Lib.itoa a == Lib.itoa b) = c ∧ (a == b) = c := ⟨_, rfl, H1.out.symm⟩
  clear H1
  obtain ⟨c, hc1, hc2⟩ := hc
  cases c
  all_goals
    go_enter Tryd.func5, Tryd.ntmps5
    go_wp2_with fail
    refine (put_any a w a0 a1 HT.out).mono ?_
    rintro e w1 ⟨rfl, hb1⟩
    have HT1 := Lib.hid (HT.out.below hb1)
    go_wp2_with fail
    refine (put_any b w1 b0 b1 HT1.out).mono ?_
    rintro e w2 ⟨rfl, hb2⟩
    have HT2 := Lib.hid (HT1.out.below hb2)
    go_wp2_with fail
    refine (wakes01 w2 HT2.out).mono ?_
    rintro e w3 ⟨rfl, hb3⟩
    go_wp2
    go_ret
    have b2 := hb1.trans (hb2.mono hb1.size)
    exact ⟨rfl, b2.trans (hb3.mono b2.size)⟩
end Go.Proofs.YtjfdagacohkboaaDoor
