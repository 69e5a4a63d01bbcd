/- Walk of transhiplaw01.NumDigits. -/
import Derived.Test.YtjfdagacohkboaaDoorLaw01
namespace Go.Proofs.YtjfdagacohkboaaDoor
open Go.RowKit

theorem dig_pos {n d : Int} (n0 : 1 ≤ n) (d0 : 0 ≤ d) (d1 : d ≤ 9) : Lib.itoa (10 * n + d) = Lib.itoa n ++ Lib.itoa d := by
  obtain ⟨a, rfl⟩ := Int.eq_ofNat_of_zero_le (by omega : 0 ≤ n)
  obtain ⟨b, rfl⟩ := Int.eq_ofNat_of_zero_le d0
  rw [show 10 * (a : Int) + (b : Int) = ((10 * a + b : Nat) : Int) by omega, Lib.itoa_nonneg, Lib.itoa_nonneg, Lib.itoa_nonneg]
  exact dec_snoc a b (by omega) (by omega)
theorem dig_neg {n d : Int} (n0 : 1 ≤ n) (d0 : 0 ≤ d) (d1 : d ≤ 9) : Lib.itoa (-10 * n - d) = [45] ++ Lib.itoa n ++ Lib.itoa d := by
  have h := dig_pos n0 d0 d1
  obtain ⟨a, ha⟩ := Int.eq_ofNat_of_zero_le (by omega : 0 ≤ 10 * n + d)
  rw [ha, Lib.itoa_nonneg] at h
  rw [show -10 * n - d = -(a : Int) by omega, Lib.itoa_neg a (by omega), h]
  rfl
theorem toList_mk (l : List UInt8) : (ByteArray.mk l.toArray).toList = l := by rw [ByteArray.toList_eq]
theorem app_toList (a b : List UInt8) : ((ByteArray.mk a.toArray) ++ (ByteArray.mk b.toArray)).toList = a ++ b := by rw [str_append, toList_mk]
theorem app_toList3 (a b c : List UInt8) : ((ByteArray.mk a.toArray) ++ (ByteArray.mk b.toArray) ++ (ByteArray.mk c.toArray)).toList = a ++ b ++ c := by rw [str_append, str_append, toList_mk]

set_option maxHeartbeats 1000000 in
theorem numDigits_walk (n d : Int) (w : World) (ht : Tab w) (n0 : 1 ≤ n) (n1 : n ≤ 1125899906842624) (d0 : 0 ≤ d) (d1 : d ≤ 9) :
    Calls Tryd.prog 6 #[.int .i64 n, .int .i64 d] w fun e w' => e = .returned (.bool true) ∧ Below w.heap.size w w' := by
  have HT := Lib.hid ht
  clear ht
  have hl1 := Lib.itoa_length_le n (by omega) (by omega)
  have hl2 := Lib.itoa_length_le d (by omega) (by omega)
  have hn1 : ¬ n < 1 := by omega
  have hn2 : ¬ 1125899906842624 < n := by omega
  have hd1 : ¬ d < 0 := by omega
  have hd2 : ¬ 9 < d := by omega
  go_enter Tryd.func6, Tryd.ntmps6
  go_wp2_with fail
  refine (put_any _ w (by omega) (by omega) HT.out).mono ?_
  rintro e w1 ⟨rfl, hb1⟩
  have HT1 := Lib.hid (HT.out.below hb1)
  go_wp2_with fail
  refine (put_any n w1 (by omega) (by omega) HT1.out).mono ?_
  rintro e w2 ⟨rfl, hb2⟩
  have HT2 := Lib.hid (HT1.out.below hb2)
  go_wp2_with fail
  refine (put_any d w2 (by omega) (by omega) HT2.out).mono ?_
  rintro e w3 ⟨rfl, hb3⟩
  have HT3 := Lib.hid (HT2.out.below hb3)
  go_wp2_with fail
  rotate_left
  · exact absurd ((dig_pos n0 d0 d1).trans (app_toList _ _).symm) ‹_›
  · refine (put_any _ w3 (by omega) (by omega) HT3.out).mono ?_
    rintro e w4 ⟨rfl, hb4⟩
    have HT4 := Lib.hid (HT3.out.below hb4)
    go_wp2_with fail
    refine (put_any n w4 (by omega) (by omega) HT4.out).mono ?_
    rintro e w5 ⟨rfl, hb5⟩
    have HT5 := Lib.hid (HT4.out.below hb5)
    go_wp2_with fail
    refine (put_any d w5 (by omega) (by omega) HT5.out).mono ?_
    rintro e w6 ⟨rfl, hb6⟩
    have HT6 := Lib.hid (HT5.out.below hb6)
    go_wp2_with fail
    rotate_left
    · exact absurd ((dig_neg n0 d0 d1).trans (app_toList3 [45] _ _).symm) ‹¬ Lib.itoa (-10 * n - d) = _›
    · refine (wakes01 w6 HT6.out).mono ?_
      rintro e w7 ⟨rfl, hb7⟩
      go_wp2
      go_ret
      have b2 := hb1.trans (hb2.mono hb1.size)
      have b3 := b2.trans (hb3.mono b2.size)
      have b4 := b3.trans (hb4.mono b3.size)
      have b5 := b4.trans (hb5.mono b4.size)
      have b6 := b5.trans (hb6.mono b5.size)
      exact ⟨rfl, b6.trans (hb7.mono b6.size)⟩

set_option maxHeartbeats 1000000 in
theorem numDigits_any (n d : Int) (w : World) (ht : Tab w) :
    Calls Tryd.prog 6 #[.int .i64 n, .int .i64 d] w fun e w' => e = .returned (.bool true) ∧ Below w.heap.size w w' := by
  by_cases h1 : n < 1
  · clear ht
    go_enter Tryd.func6, Tryd.ntmps6
    go_wp2
    go_ret
    exact ⟨rfl, Below.refl _ _⟩
  by_cases h2 : 1125899906842624 < n
  · clear ht
    go_enter Tryd.func6, Tryd.ntmps6
    go_wp2
    go_ret
    exact ⟨rfl, Below.refl _ _⟩
  by_cases h3 : d < 0
  · clear ht
    go_enter Tryd.func6, Tryd.ntmps6
    go_wp2
    go_ret
    exact ⟨rfl, Below.refl _ _⟩
  by_cases h4 : 9 < d
  · clear ht
    go_enter Tryd.func6, Tryd.ntmps6
    go_wp2
    go_ret
    exact ⟨rfl, Below.refl _ _⟩
  exact numDigits_walk n d w ht (by omega) (by omega) (by omega) (by omega)
end Go.Proofs.YtjfdagacohkboaaDoor
