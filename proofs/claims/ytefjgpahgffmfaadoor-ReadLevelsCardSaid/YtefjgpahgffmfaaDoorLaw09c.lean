/- Walk of transhiplaw09.ReadLevels. -/
import Derived.Test.YtefjgpahgffmfaaDoorLaw09
import Derived.Test.YtefjgpahgffmfaaDoorLv
namespace Go.Proofs.YtefjgpahgffmfaaDoor
open Go.RowKit

theorem levT_len (b : Bool) : ∀ m, (levT m b).length = (if b then 9 else 1) + 6 * m
  | 0 => by cases b <;> rfl
  | m + 1 => by
    simp only [levT, List.length_append, List.length_cons, List.length_nil, levT_len b m]
    omega
theorem levT_app (q : Nat) (b : Bool) : (ByteArray.mk #[40, 115, 117, 99, 32]) ++ (ByteArray.mk (levT q b).toArray) ++ (ByteArray.mk #[41]) = ⟨(levT (q + 1) b).toArray⟩ := by
  have h1 := str_append [40, 115, 117, 99, 32] (levT q b)
  have h2 := str_append ([40, 115, 117, 99, 32] ++ levT q b) [41]
  rw [← h1] at h2
  exact h2
theorem sortT_app (q : Nat) (b : Bool) : (ByteArray.mk #[40, 115, 111, 114, 116, 32]) ++ (ByteArray.mk (levT q b).toArray) ++ (ByteArray.mk #[41]) = ⟨(sortT q b).toArray⟩ := by
  have h1 := str_append [40, 115, 111, 114, 116, 32] (levT q b)
  have h2 := str_append ([40, 115, 111, 114, 116, 32] ++ levT q b) [41]
  rw [← h1] at h2
  exact h2

set_option maxRecDepth 100000 in
set_option maxHeartbeats 4000000 in
theorem readLevels_out (i j s : Int) (b : Bool) (w : World) (h : i < 0 ∨ 1000 < i ∨ j < 0 ∨ 1000 < j ∨ s < 0 ∨ 30 < s) :
    Calls Tryd.prog 10 #[.int .i64 i, .int .i64 j, .int .i64 s, .bool b] w fun e w' => e = .returned (.bool true) ∧ Below w.heap.size w w' := by
  rcases (show decide (i < 0) = true ∨ (decide (i < 0) = false ∧ decide ((1000 : Int) < i) = true) ∨ (decide (i < 0) = false ∧ decide ((1000 : Int) < i) = false ∧ decide (j < 0) = true) ∨ (decide (i < 0) = false ∧ decide ((1000 : Int) < i) = false ∧ decide (j < 0) = false ∧ decide ((1000 : Int) < j) = true) ∨ (decide (i < 0) = false ∧ decide ((1000 : Int) < i) = false ∧ decide (j < 0) = false ∧ decide ((1000 : Int) < j) = false ∧ decide (s < 0) = true) ∨ (decide (i < 0) = false ∧ decide ((1000 : Int) < i) = false ∧ decide (j < 0) = false ∧ decide ((1000 : Int) < j) = false ∧ decide (s < 0) = false ∧ decide ((30 : Int) < s) = true) by simp only [decide_eq_true_eq, decide_eq_false_iff_not]; omega) with h1 | ⟨h1, h2⟩ | ⟨h1, h2, h3⟩ | ⟨h1, h2, h3, h4⟩ | ⟨h1, h2, h3, h4, h5⟩ | ⟨h1, h2, h3, h4, h5, h6⟩
  all_goals
    clear h
    go_enter Tryd.func10, Tryd.ntmps10
    go_wp2
    go_ret
    exact ⟨rfl, Below.refl _ _⟩

set_option maxRecDepth 100000 in
set_option maxHeartbeats 4000000 in
theorem readLevels_a (I J S : Nat) (w : World) (hI : I ≤ 1000) (hJ : J ≤ 1000) (hS : S ≤ 30)  (ht : Tab w) :
    Calls Tryd.prog 10 #[.int .i64 I, .int .i64 J, .int .i64 S, .bool false] w fun e w' => e = .returned (.bool true) ∧ Below w.heap.size w w' := by
  have HIJ : Hid ((I ≤ 1000 ∧ J ≤ 1000) ∧ S ≤ 30) := Lib.hid ⟨⟨hI, hJ⟩, hS⟩
  have HT := Lib.hid ht
  have i1 : decide ((1000 : Int) < (I : Int)) = false := by simp; omega
  have j1 : decide ((1000 : Int) < (J : Int)) = false := by simp; omega
  have s1 : decide ((30 : Int) < (S : Int)) = false := by simp; omega
  
  have HV : Hid (levVal I J false = I) := Lib.hid (rfl)
  skip
  clear hI hJ hS ht
  go_enter Tryd.func10, Tryd.ntmps10
  go_wp2_with fail
  go_loop [9, 11] (fun s i => ∃ q : Nat, q ≤ S ∧ i = .int .i64 q ∧ s = .string ⟨(levT q false).toArray⟩) (fun _ i => S - (intOf i).toNat)
  case atStart => exact ⟨0, Nat.zero_le _, rfl, rfl⟩
  case round =>
    obtain ⟨q, hq, rfl, rfl⟩ := hrel
    have HQ := Lib.hid hq
    have hll : (levT q false).length ≤ 200 := by
      rw [levT_len]
      have := HIJ.out.2
      simp
      omega
    by_cases hlt : q < S
    · have hs30 := HIJ.out.2
      have HA := Lib.hid (levT_app q false)
      go_wp2
      go_round
      case rel => exact ⟨q + 1, by omega, by go_num, by rw [HA.out]⟩
      case measure => simp [intOf]; omega
    · obtain rfl : q = S := by omega
      have HA := Lib.hid (sortT_app q false)
      have hsr := sort_read (show q < 31 by have := HIJ.out.2; omega) false HIJ.out.1.1 HIJ.out.1.2
      rw [HV.out] at hsr
      have HL : Hid ((sortT q false).length ≤ 1000) := Lib.hid (by
        simp only [sortT, List.length_append, List.length_cons, List.length_nil, levT_len]
        have := HIJ.out.2
        simp
        omega)
      clear hq
      go_wp2_with fail
      rw [HA.out]
      have HSZ : Hid ((ByteArray.mk (sortT q false).toArray).size ≤ 1099511627776) := Lib.hid (Nat.le_trans (Nat.le_of_eq (show (ByteArray.mk (sortT q false).toArray).size = (sortT q false).length from rfl)) (Nat.le_trans HL.out (by decide)))
      by_cases hsum : I + q ≤ 1000
      · obtain ⟨z, hz⟩ := hsr.1 hsum
        rw [show ((I + q : Nat) : Int) = (I : Int) + (q : Int) by omega] at hz
        have g1 : decide ((I : Int) + (q : Int) ≤ 1000) = true := decide_eq_true (by omega)
        refine (read_ok ⟨(sortT q false).toArray⟩ I J w HT.out HSZ.out (Has.nil w 1) (by decide) HIJ.out.1 hz).mono ?_
        rintro e w1 ⟨ka, kc, rfl, -, -, hb⟩
        have HB1 : Hid (Below w.heap.size w w1) := Lib.hid hb
        have HX : Hid ((w1.alloc (.cells #[.int .i64 1, .int .i64 ((I : Int) + (q : Int)), .int .i64 0, .int .i64 0, .slice ka 0 kc] 24)).heap[w1.heap.size]? = some (.cells #[.int .i64 1, .int .i64 ((I : Int) + (q : Int)), .int .i64 0, .int .i64 0, .slice ka 0 kc] 24 (0, 0))) := Lib.hid (new_heap _ _ _)
        obtain ⟨x0, x1, x2, x3, x4⟩ := box_cells5 HX.out
        clear hb hz hsr hll
        unfold termV
        go_wp2_with fail
        refine (wakes09 _ (HT.out.below (HB1.out.trans ((below_alloc _ _).mono HB1.out.size)))).mono ?_
        rintro e w2 ⟨rfl, hb⟩
        have HB2 : Hid (Below w.heap.size w w2) := Lib.hid (HB1.out.trans ((below_alloc w1 (.cells #[.int .i64 1, .int .i64 ((I : Int) + (q : Int)), .int .i64 0, .int .i64 0, .slice ka 0 kc] 24)).mono HB1.out.size |>.trans (hb.mono (Nat.le_trans HB1.out.size (below_alloc _ _).size))))
        clear hb x0 x1 x2 x3 x4
        go_wp2
        go_ret
        exact ⟨rfl, HB2.out⟩
      · obtain ⟨z, hz, hp⟩ := hsr.2 (by omega)
        have g1 : decide ((I : Int) + (q : Int) ≤ 1000) = false := decide_eq_false (by omega)
        have HPE : Hid (((6 + 5 * (q - (1001 - I)) : Nat) : Int) = 6 + 5 * ((q : Int) - (1001 - (I : Int)))) := Lib.hid (by have := HIJ.out; omega)
        have hq30 := HIJ.out.2
        have hV1 := HIJ.out.1
        refine (read_bad ⟨(sortT q false).toArray⟩ I J w HT.out HSZ.out (Has.nil w 1) (by decide) HIJ.out.1 hz hp).mono ?_
        rintro e w1 ⟨rfl, hb⟩
        have HB1 : Hid (Below w.heap.size w w1) := Lib.hid hb
        rw [HPE.out]
        clear hb hz hp hsr hsum
        unfold termV
        go_wp2_with fail
        refine (wakes09 _ (HT.out.below (HB1.out.trans ((below_alloc _ _).mono HB1.out.size)))).mono ?_
        rintro e w2 ⟨rfl, hb⟩
        have HB2 : Hid (Below w.heap.size w w2) := Lib.hid (HB1.out.trans ((below_alloc w1 (.cells #[.int .i64 0, .int .i64 0, .int .i64 0, .int .i64 0, .slice none 0 0] 24)).mono HB1.out.size |>.trans (hb.mono (Nat.le_trans HB1.out.size (below_alloc _ _).size))))
        clear hb
        go_wp2
        go_ret
        exact ⟨rfl, HB2.out⟩

set_option maxRecDepth 100000 in
set_option maxHeartbeats 4000000 in
theorem readLevels_b (I J S : Nat) (w : World) (hI : I ≤ 1000) (hJ : J ≤ 1000) (hS : S ≤ 30) (hc : I < J) (ht : Tab w) :
    Calls Tryd.prog 10 #[.int .i64 I, .int .i64 J, .int .i64 S, .bool true] w fun e w' => e = .returned (.bool true) ∧ Below w.heap.size w w' := by
  have HIJ : Hid ((I ≤ 1000 ∧ J ≤ 1000) ∧ S ≤ 30) := Lib.hid ⟨⟨hI, hJ⟩, hS⟩
  have HT := Lib.hid ht
  have i1 : decide ((1000 : Int) < (I : Int)) = false := by simp; omega
  have j1 : decide ((1000 : Int) < (J : Int)) = false := by simp; omega
  have s1 : decide ((30 : Int) < (S : Int)) = false := by simp; omega
  have hc' : decide ((I : Int) < (J : Int)) = true := by simp; omega
  have hc2 : decide (I < J) = true := by simp; omega
  have HV : Hid (levVal I J true = J) := Lib.hid (by unfold levVal; simp; omega)
  clear hc
  clear hI hJ hS ht
  go_enter Tryd.func10, Tryd.ntmps10
  go_wp2_with fail
  go_loop [9, 11] (fun s i => ∃ q : Nat, q ≤ S ∧ i = .int .i64 q ∧ s = .string ⟨(levT q true).toArray⟩) (fun _ i => S - (intOf i).toNat)
  case atStart => exact ⟨0, Nat.zero_le _, rfl, rfl⟩
  case round =>
    obtain ⟨q, hq, rfl, rfl⟩ := hrel
    have HQ := Lib.hid hq
    have hll : (levT q true).length ≤ 200 := by
      rw [levT_len]
      have := HIJ.out.2
      simp
      omega
    by_cases hlt : q < S
    · have hs30 := HIJ.out.2
      have HA := Lib.hid (levT_app q true)
      go_wp2
      go_round
      case rel => exact ⟨q + 1, by omega, by go_num, by rw [HA.out]⟩
      case measure => simp [intOf]; omega
    · obtain rfl : q = S := by omega
      have HA := Lib.hid (sortT_app q true)
      have hsr := sort_read (show q < 31 by have := HIJ.out.2; omega) true HIJ.out.1.1 HIJ.out.1.2
      rw [HV.out] at hsr
      have HL : Hid ((sortT q true).length ≤ 1000) := Lib.hid (by
        simp only [sortT, List.length_append, List.length_cons, List.length_nil, levT_len]
        have := HIJ.out.2
        simp
        omega)
      clear hq
      go_wp2_with fail
      rw [HA.out]
      have HSZ : Hid ((ByteArray.mk (sortT q true).toArray).size ≤ 1099511627776) := Lib.hid (Nat.le_trans (Nat.le_of_eq (show (ByteArray.mk (sortT q true).toArray).size = (sortT q true).length from rfl)) (Nat.le_trans HL.out (by decide)))
      by_cases hsum : J + q ≤ 1000
      · obtain ⟨z, hz⟩ := hsr.1 hsum
        rw [show ((J + q : Nat) : Int) = (J : Int) + (q : Int) by omega] at hz
        have g1 : decide ((J : Int) + (q : Int) ≤ 1000) = true := decide_eq_true (by omega)
        refine (read_ok ⟨(sortT q true).toArray⟩ I J w HT.out HSZ.out (Has.nil w 1) (by decide) HIJ.out.1 hz).mono ?_
        rintro e w1 ⟨ka, kc, rfl, -, -, hb⟩
        have HB1 : Hid (Below w.heap.size w w1) := Lib.hid hb
        have HX : Hid ((w1.alloc (.cells #[.int .i64 1, .int .i64 ((J : Int) + (q : Int)), .int .i64 0, .int .i64 0, .slice ka 0 kc] 24)).heap[w1.heap.size]? = some (.cells #[.int .i64 1, .int .i64 ((J : Int) + (q : Int)), .int .i64 0, .int .i64 0, .slice ka 0 kc] 24 (0, 0))) := Lib.hid (new_heap _ _ _)
        obtain ⟨x0, x1, x2, x3, x4⟩ := box_cells5 HX.out
        clear hb hz hsr hll
        unfold termV
        go_wp2_with fail
        refine (wakes09 _ (HT.out.below (HB1.out.trans ((below_alloc _ _).mono HB1.out.size)))).mono ?_
        rintro e w2 ⟨rfl, hb⟩
        have HB2 : Hid (Below w.heap.size w w2) := Lib.hid (HB1.out.trans ((below_alloc w1 (.cells #[.int .i64 1, .int .i64 ((J : Int) + (q : Int)), .int .i64 0, .int .i64 0, .slice ka 0 kc] 24)).mono HB1.out.size |>.trans (hb.mono (Nat.le_trans HB1.out.size (below_alloc _ _).size))))
        clear hb x0 x1 x2 x3 x4
        go_wp2
        go_ret
        exact ⟨rfl, HB2.out⟩
      · obtain ⟨z, hz, hp⟩ := hsr.2 (by omega)
        have g1 : decide ((J : Int) + (q : Int) ≤ 1000) = false := decide_eq_false (by omega)
        have HPE : Hid (((6 + 5 * (q - (1001 - J)) : Nat) : Int) = 6 + 5 * ((q : Int) - (1001 - (J : Int)))) := Lib.hid (by have := HIJ.out; omega)
        have hq30 := HIJ.out.2
        have hV1 := HIJ.out.1
        refine (read_bad ⟨(sortT q true).toArray⟩ I J w HT.out HSZ.out (Has.nil w 1) (by decide) HIJ.out.1 hz hp).mono ?_
        rintro e w1 ⟨rfl, hb⟩
        have HB1 : Hid (Below w.heap.size w w1) := Lib.hid hb
        rw [HPE.out]
        clear hb hz hp hsr hsum
        unfold termV
        go_wp2_with fail
        refine (wakes09 _ (HT.out.below (HB1.out.trans ((below_alloc _ _).mono HB1.out.size)))).mono ?_
        rintro e w2 ⟨rfl, hb⟩
        have HB2 : Hid (Below w.heap.size w w2) := Lib.hid (HB1.out.trans ((below_alloc w1 (.cells #[.int .i64 0, .int .i64 0, .int .i64 0, .int .i64 0, .slice none 0 0] 24)).mono HB1.out.size |>.trans (hb.mono (Nat.le_trans HB1.out.size (below_alloc _ _).size))))
        clear hb
        go_wp2
        go_ret
        exact ⟨rfl, HB2.out⟩

set_option maxRecDepth 100000 in
set_option maxHeartbeats 4000000 in
theorem readLevels_c (I J S : Nat) (w : World) (hI : I ≤ 1000) (hJ : J ≤ 1000) (hS : S ≤ 30) (hc : J ≤ I) (ht : Tab w) :
    Calls Tryd.prog 10 #[.int .i64 I, .int .i64 J, .int .i64 S, .bool true] w fun e w' => e = .returned (.bool true) ∧ Below w.heap.size w w' := by
  have HIJ : Hid ((I ≤ 1000 ∧ J ≤ 1000) ∧ S ≤ 30) := Lib.hid ⟨⟨hI, hJ⟩, hS⟩
  have HT := Lib.hid ht
  have i1 : decide ((1000 : Int) < (I : Int)) = false := by simp; omega
  have j1 : decide ((1000 : Int) < (J : Int)) = false := by simp; omega
  have s1 : decide ((30 : Int) < (S : Int)) = false := by simp; omega
  have hc' : decide ((I : Int) < (J : Int)) = false := by simp; omega
  have hc2 : decide (I < J) = false := by simp; omega
  have HV : Hid (levVal I J true = I) := Lib.hid (by unfold levVal; simp; omega)
  clear hc
  clear hI hJ hS ht
  go_enter Tryd.func10, Tryd.ntmps10
  go_wp2_with fail
  go_loop [9, 11] (fun s i => ∃ q : Nat, q ≤ S ∧ i = .int .i64 q ∧ s = .string ⟨(levT q true).toArray⟩) (fun _ i => S - (intOf i).toNat)
  case atStart => exact ⟨0, Nat.zero_le _, rfl, rfl⟩
  case round =>
    obtain ⟨q, hq, rfl, rfl⟩ := hrel
    have HQ := Lib.hid hq
    have hll : (levT q true).length ≤ 200 := by
      rw [levT_len]
      have := HIJ.out.2
      simp
      omega
    by_cases hlt : q < S
    · have hs30 := HIJ.out.2
      have HA := Lib.hid (levT_app q true)
      go_wp2
      go_round
      case rel => exact ⟨q + 1, by omega, by go_num, by rw [HA.out]⟩
      case measure => simp [intOf]; omega
    · obtain rfl : q = S := by omega
      have HA := Lib.hid (sortT_app q true)
      have hsr := sort_read (show q < 31 by have := HIJ.out.2; omega) true HIJ.out.1.1 HIJ.out.1.2
      rw [HV.out] at hsr
      have HL : Hid ((sortT q true).length ≤ 1000) := Lib.hid (by
        simp only [sortT, List.length_append, List.length_cons, List.length_nil, levT_len]
        have := HIJ.out.2
        simp
        omega)
      clear hq
      go_wp2_with fail
      rw [HA.out]
      have HSZ : Hid ((ByteArray.mk (sortT q true).toArray).size ≤ 1099511627776) := Lib.hid (Nat.le_trans (Nat.le_of_eq (show (ByteArray.mk (sortT q true).toArray).size = (sortT q true).length from rfl)) (Nat.le_trans HL.out (by decide)))
      by_cases hsum : I + q ≤ 1000
      · obtain ⟨z, hz⟩ := hsr.1 hsum
        rw [show ((I + q : Nat) : Int) = (I : Int) + (q : Int) by omega] at hz
        have g1 : decide ((I : Int) + (q : Int) ≤ 1000) = true := decide_eq_true (by omega)
        refine (read_ok ⟨(sortT q true).toArray⟩ I J w HT.out HSZ.out (Has.nil w 1) (by decide) HIJ.out.1 hz).mono ?_
        rintro e w1 ⟨ka, kc, rfl, -, -, hb⟩
        have HB1 : Hid (Below w.heap.size w w1) := Lib.hid hb
        have HX : Hid ((w1.alloc (.cells #[.int .i64 1, .int .i64 ((I : Int) + (q : Int)), .int .i64 0, .int .i64 0, .slice ka 0 kc] 24)).heap[w1.heap.size]? = some (.cells #[.int .i64 1, .int .i64 ((I : Int) + (q : Int)), .int .i64 0, .int .i64 0, .slice ka 0 kc] 24 (0, 0))) := Lib.hid (new_heap _ _ _)
        obtain ⟨x0, x1, x2, x3, x4⟩ := box_cells5 HX.out
        clear hb hz hsr hll
        unfold termV
        go_wp2_with fail
        refine (wakes09 _ (HT.out.below (HB1.out.trans ((below_alloc _ _).mono HB1.out.size)))).mono ?_
        rintro e w2 ⟨rfl, hb⟩
        have HB2 : Hid (Below w.heap.size w w2) := Lib.hid (HB1.out.trans ((below_alloc w1 (.cells #[.int .i64 1, .int .i64 ((I : Int) + (q : Int)), .int .i64 0, .int .i64 0, .slice ka 0 kc] 24)).mono HB1.out.size |>.trans (hb.mono (Nat.le_trans HB1.out.size (below_alloc _ _).size))))
        clear hb x0 x1 x2 x3 x4
        go_wp2
        go_ret
        exact ⟨rfl, HB2.out⟩
      · obtain ⟨z, hz, hp⟩ := hsr.2 (by omega)
        have g1 : decide ((I : Int) + (q : Int) ≤ 1000) = false := decide_eq_false (by omega)
        have HPE : Hid (((6 + 5 * (q - (1001 - I)) : Nat) : Int) = 6 + 5 * ((q : Int) - (1001 - (I : Int)))) := Lib.hid (by have := HIJ.out; omega)
        have hq30 := HIJ.out.2
        have hV1 := HIJ.out.1
        refine (read_bad ⟨(sortT q true).toArray⟩ I J w HT.out HSZ.out (Has.nil w 1) (by decide) HIJ.out.1 hz hp).mono ?_
        rintro e w1 ⟨rfl, hb⟩
        have HB1 : Hid (Below w.heap.size w w1) := Lib.hid hb
        rw [HPE.out]
        clear hb hz hp hsr hsum
        unfold termV
        go_wp2_with fail
        refine (wakes09 _ (HT.out.below (HB1.out.trans ((below_alloc _ _).mono HB1.out.size)))).mono ?_
        rintro e w2 ⟨rfl, hb⟩
        have HB2 : Hid (Below w.heap.size w w2) := Lib.hid (HB1.out.trans ((below_alloc w1 (.cells #[.int .i64 0, .int .i64 0, .int .i64 0, .int .i64 0, .slice none 0 0] 24)).mono HB1.out.size |>.trans (hb.mono (Nat.le_trans HB1.out.size (below_alloc _ _).size))))
        clear hb
        go_wp2
        go_ret
        exact ⟨rfl, HB2.out⟩

theorem readLevels_walk (i j s : Int) (b : Bool) (w : World) (ht : Tab w) :
    Calls Tryd.prog 10 #[.int .i64 i, .int .i64 j, .int .i64 s, .bool b] w fun e w' => e = .returned (.bool true) ∧ Below w.heap.size w w' := by
  by_cases h : i < 0 ∨ 1000 < i ∨ j < 0 ∨ 1000 < j ∨ s < 0 ∨ 30 < s
  · exact readLevels_out i j s b w h
  obtain ⟨I, rfl⟩ := Int.eq_ofNat_of_zero_le (show 0 ≤ i by omega)
  obtain ⟨J, rfl⟩ := Int.eq_ofNat_of_zero_le (show 0 ≤ j by omega)
  obtain ⟨S, rfl⟩ := Int.eq_ofNat_of_zero_le (show 0 ≤ s by omega)
  cases b with
  | false => exact readLevels_a I J S w (by omega) (by omega) (by omega) ht
  | true =>
    rcases Nat.lt_or_ge I J with hc | hc
    · exact readLevels_b I J S w (by omega) (by omega) (by omega) hc ht
    · exact readLevels_c I J S w (by omega) (by omega) (by omega) hc ht
end Go.Proofs.YtefjgpahgffmfaaDoor
