/- Walks of the switches over a term's kind: term.takes, Kids, sort, level; bare.Binds; transhipref04.Binds, level. -/
import Derived.Test.YtefjgpahgffmfaaDoorTm
namespace Go.Proofs.YtefjgpahgffmfaaDoor
open Go.RowKit

set_option maxHeartbeats 4000000 in
set_option maxRecDepth 100000 in
theorem takes_any (n : Int) (w : World) : Calls Tryd.prog 95 #[.int .i64 n] w fun e w' => e = .returned (.int .i64 (takesK n)) ∧ w = w' := by
  by_cases h : 1 ≤ n ∧ n ≤ 21
  · have h2 : n = 1 ∨ n = 2 ∨ n = 3 ∨ n = 4 ∨ n = 5 ∨ n = 6 ∨ n = 7 ∨ n = 8 ∨ n = 9 ∨ n = 10 ∨ n = 11 ∨ n = 12 ∨ n = 13 ∨ n = 14 ∨ n = 15 ∨ n = 16 ∨ n = 17 ∨ n = 18 ∨ n = 19 ∨ n = 20 ∨ n = 21 := by omega
    clear h
    rcases h2 with rfl | rfl | rfl | rfl | rfl | rfl | rfl | rfl | rfl | rfl | rfl | rfl | rfl | rfl | rfl | rfl | rfl | rfl | rfl | rfl | rfl
    all_goals (go_enter Tryd.func95, Tryd.ntmps95; go_wp2; go_ret; exact ⟨rfl, rfl⟩)
  · have HV : Hid (takesK n = -1) := Lib.hid (by
      unfold takesK
      repeat rw [if_neg (by omega)])
    have e1 : (n == 1) = false := by simp; omega
    have e2 : (n == 2) = false := by simp; omega
    have e3 : (n == 3) = false := by simp; omega
    have e4 : (n == 4) = false := by simp; omega
    have e5 : (n == 5) = false := by simp; omega
    have e6 : (n == 6) = false := by simp; omega
    have e7 : (n == 7) = false := by simp; omega
    have e8 : (n == 8) = false := by simp; omega
    have e9 : (n == 9) = false := by simp; omega
    have e10 : (n == 10) = false := by simp; omega
    have e11 : (n == 11) = false := by simp; omega
    have e12 : (n == 12) = false := by simp; omega
    have e13 : (n == 13) = false := by simp; omega
    have e14 : (n == 14) = false := by simp; omega
    have e15 : (n == 15) = false := by simp; omega
    have e16 : (n == 16) = false := by simp; omega
    have e17 : (n == 17) = false := by simp; omega
    have e18 : (n == 18) = false := by simp; omega
    have e19 : (n == 19) = false := by simp; omega
    have e20 : (n == 20) = false := by simp; omega
    have e21 : (n == 21) = false := by simp; omega
    clear h
    go_enter Tryd.func95, Tryd.ntmps95
    go_wp2
    go_ret
    exact ⟨by rw [HV.out]; rfl, rfl⟩

set_option maxHeartbeats 4000000 in
set_option maxRecDepth 100000 in
theorem kidsK_any (k n : Int) (w : World) : Calls Tryd.prog 79 #[.int .i64 k, .int .i64 n] w fun e w' => e = .returned (.int .i64 (kidsK k n)) ∧ w = w' := by
  by_cases h : 1 ≤ k ∧ k ≤ 23
  · by_cases h23 : k = 23
    · subst h23
      go_enter Tryd.func79, Tryd.ntmps79
      go_wp2_with fail
      refine (takes_any n w).mono ?_
      rintro e w1 ⟨rfl, rfl⟩
      go_wp2
      go_ret
      exact ⟨rfl, rfl⟩
    · have h2 : k = 1 ∨ k = 2 ∨ k = 3 ∨ k = 4 ∨ k = 5 ∨ k = 6 ∨ k = 7 ∨ k = 8 ∨ k = 9 ∨ k = 10 ∨ k = 11 ∨ k = 12 ∨ k = 13 ∨ k = 14 ∨ k = 15 ∨ k = 16 ∨ k = 17 ∨ k = 18 ∨ k = 19 ∨ k = 20 ∨ k = 21 ∨ k = 22 := by omega
      clear h h23
      rcases h2 with rfl | rfl | rfl | rfl | rfl | rfl | rfl | rfl | rfl | rfl | rfl | rfl | rfl | rfl | rfl | rfl | rfl | rfl | rfl | rfl | rfl | rfl
      all_goals (go_enter Tryd.func79, Tryd.ntmps79; go_wp2; go_ret; exact ⟨rfl, rfl⟩)
  · have HV : Hid (kidsK k n = -1) := Lib.hid (by
      unfold kidsK
      repeat rw [if_neg (by omega)])
    have e1 : (k == 1) = false := by simp; omega
    have e2 : (k == 2) = false := by simp; omega
    have e3 : (k == 3) = false := by simp; omega
    have e4 : (k == 4) = false := by simp; omega
    have e5 : (k == 5) = false := by simp; omega
    have e6 : (k == 6) = false := by simp; omega
    have e7 : (k == 7) = false := by simp; omega
    have e8 : (k == 8) = false := by simp; omega
    have e9 : (k == 9) = false := by simp; omega
    have e10 : (k == 10) = false := by simp; omega
    have e11 : (k == 11) = false := by simp; omega
    have e12 : (k == 12) = false := by simp; omega
    have e13 : (k == 13) = false := by simp; omega
    have e14 : (k == 14) = false := by simp; omega
    have e15 : (k == 15) = false := by simp; omega
    have e16 : (k == 16) = false := by simp; omega
    have e17 : (k == 17) = false := by simp; omega
    have e18 : (k == 18) = false := by simp; omega
    have e19 : (k == 19) = false := by simp; omega
    have e20 : (k == 20) = false := by simp; omega
    have e21 : (k == 21) = false := by simp; omega
    have e22 : (k == 22) = false := by simp; omega
    have e23 : (k == 23) = false := by simp; omega
    clear h
    go_enter Tryd.func79, Tryd.ntmps79
    go_wp2
    go_ret
    exact ⟨by rw [HV.out]; rfl, rfl⟩

set_option maxHeartbeats 4000000 in
set_option maxRecDepth 100000 in
theorem binds_any (k x : Int) (w : World) : Calls Tryd.prog 57 #[.int .i64 k, .int .i64 x] w fun e w' => e = .returned (.int .i64 (bindsK k x)) ∧ w = w' := by
  have hx : x = 1 ∨ x = 2 ∨ ((x == 1) = false ∧ (x == 2) = false ∧ x ≠ 1 ∧ x ≠ 2) := by
    by_cases h1 : x = 1
    · exact .inl h1
    · by_cases h2 : x = 2
      · exact .inr (.inl h2)
      · exact .inr (.inr ⟨by simp [h1], by simp [h2], h1, h2⟩)
  by_cases h : 3 ≤ k ∧ k ≤ 22
  · have h2 : k = 3 ∨ k = 4 ∨ k = 5 ∨ k = 6 ∨ k = 7 ∨ k = 8 ∨ k = 9 ∨ k = 10 ∨ k = 11 ∨ k = 12 ∨ k = 13 ∨ k = 14 ∨ k = 15 ∨ k = 16 ∨ k = 17 ∨ k = 18 ∨ k = 19 ∨ k = 20 ∨ k = 21 ∨ k = 22 := by omega
    clear h
    rcases hx with rfl | rfl | ⟨x1, x2, x3, x4⟩
    · rcases h2 with rfl | rfl | rfl | rfl | rfl | rfl | rfl | rfl | rfl | rfl | rfl | rfl | rfl | rfl | rfl | rfl | rfl | rfl | rfl | rfl
      all_goals (go_enter Tryd.func57, Tryd.ntmps57; go_wp2; go_ret; exact ⟨rfl, rfl⟩)
    · rcases h2 with rfl | rfl | rfl | rfl | rfl | rfl | rfl | rfl | rfl | rfl | rfl | rfl | rfl | rfl | rfl | rfl | rfl | rfl | rfl | rfl
      all_goals (go_enter Tryd.func57, Tryd.ntmps57; go_wp2; go_ret; exact ⟨rfl, rfl⟩)
    · have HV : Hid (∀ k, bindsK k x = 0) := Lib.hid (fun k => by
        unfold bindsK
        repeat rw [if_neg (by omega)])
      clear x3 x4
      rcases h2 with rfl | rfl | rfl | rfl | rfl | rfl | rfl | rfl | rfl | rfl | rfl | rfl | rfl | rfl | rfl | rfl | rfl | rfl | rfl | rfl
      all_goals (go_enter Tryd.func57, Tryd.ntmps57; go_wp2; go_ret; exact ⟨by rw [HV.out]; rfl, rfl⟩)
  · have HV : Hid (bindsK k x = 0) := Lib.hid (by
      unfold bindsK
      repeat rw [if_neg (by omega)])
    have e3 : (k == 3) = false := by simp; omega
    have e4 : (k == 4) = false := by simp; omega
    have e5 : (k == 5) = false := by simp; omega
    have e6 : (k == 6) = false := by simp; omega
    have e7 : (k == 7) = false := by simp; omega
    have e8 : (k == 8) = false := by simp; omega
    have e9 : (k == 9) = false := by simp; omega
    have e13 : (k == 13) = false := by simp; omega
    have e14 : (k == 14) = false := by simp; omega
    have e16 : (k == 16) = false := by simp; omega
    have e17 : (k == 17) = false := by simp; omega
    have e22 : (k == 22) = false := by simp; omega
    clear h hx
    go_enter Tryd.func57, Tryd.ntmps57
    go_wp2
    go_ret
    exact ⟨by rw [HV.out]; rfl, rfl⟩

set_option maxHeartbeats 4000000 in
set_option maxRecDepth 100000 in
theorem rbinds_any (k x : Int) (w : World) : Calls Tryd.prog 61 #[.int .i64 k, .int .i64 x] w fun e w' => e = .returned (.int .i64 (bindsK k x)) ∧ w = w' := by
  have hx : x = 1 ∨ x = 2 ∨ ((x == 1) = false ∧ (x == 2) = false ∧ x ≠ 1 ∧ x ≠ 2) := by
    by_cases h1 : x = 1
    · exact .inl h1
    · by_cases h2 : x = 2
      · exact .inr (.inl h2)
      · exact .inr (.inr ⟨by simp [h1], by simp [h2], h1, h2⟩)
  by_cases h : 3 ≤ k ∧ k ≤ 22
  · have h2 : k = 3 ∨ k = 4 ∨ k = 5 ∨ k = 6 ∨ k = 7 ∨ k = 8 ∨ k = 9 ∨ k = 10 ∨ k = 11 ∨ k = 12 ∨ k = 13 ∨ k = 14 ∨ k = 15 ∨ k = 16 ∨ k = 17 ∨ k = 18 ∨ k = 19 ∨ k = 20 ∨ k = 21 ∨ k = 22 := by omega
    clear h
    rcases hx with rfl | rfl | ⟨x1, x2, x3, x4⟩
    · rcases h2 with rfl | rfl | rfl | rfl | rfl | rfl | rfl | rfl | rfl | rfl | rfl | rfl | rfl | rfl | rfl | rfl | rfl | rfl | rfl | rfl
      all_goals (go_enter Tryd.func61, Tryd.ntmps61; go_wp2; go_ret; exact ⟨rfl, rfl⟩)
    · rcases h2 with rfl | rfl | rfl | rfl | rfl | rfl | rfl | rfl | rfl | rfl | rfl | rfl | rfl | rfl | rfl | rfl | rfl | rfl | rfl | rfl
      all_goals (go_enter Tryd.func61, Tryd.ntmps61; go_wp2; go_ret; exact ⟨rfl, rfl⟩)
    · have HV : Hid (∀ k, bindsK k x = 0) := Lib.hid (fun k => by
        unfold bindsK
        repeat rw [if_neg (by omega)])
      clear x3 x4
      rcases h2 with rfl | rfl | rfl | rfl | rfl | rfl | rfl | rfl | rfl | rfl | rfl | rfl | rfl | rfl | rfl | rfl | rfl | rfl | rfl | rfl
      all_goals (go_enter Tryd.func61, Tryd.ntmps61; go_wp2; go_ret; exact ⟨by rw [HV.out]; rfl, rfl⟩)
  · have HV : Hid (bindsK k x = 0) := Lib.hid (by
      unfold bindsK
      repeat rw [if_neg (by omega)])
    have e3 : (k == 3) = false := by simp; omega
    have e4 : (k == 4) = false := by simp; omega
    have e5 : (k == 5) = false := by simp; omega
    have e6 : (k == 6) = false := by simp; omega
    have e7 : (k == 7) = false := by simp; omega
    have e8 : (k == 8) = false := by simp; omega
    have e9 : (k == 9) = false := by simp; omega
    have e13 : (k == 13) = false := by simp; omega
    have e14 : (k == 14) = false := by simp; omega
    have e16 : (k == 16) = false := by simp; omega
    have e17 : (k == 17) = false := by simp; omega
    have e22 : (k == 22) = false := by simp; omega
    clear h hx
    go_enter Tryd.func61, Tryd.ntmps61
    go_wp2
    go_ret
    exact ⟨by rw [HV.out]; rfl, rfl⟩

set_option maxHeartbeats 4000000 in
set_option maxRecDepth 100000 in
theorem sort_any (k : Int) (w : World) : Calls Tryd.prog 78 #[.int .i64 k] w fun e w' => e = .returned (.int .i64 (sortK k)) ∧ w = w' := by
  by_cases h1 : k = 1
  · subst h1; go_enter Tryd.func78, Tryd.ntmps78; go_wp2; go_ret; exact ⟨rfl, rfl⟩
  by_cases h2 : k = 2
  · subst h2; go_enter Tryd.func78, Tryd.ntmps78; go_wp2; go_ret; exact ⟨rfl, rfl⟩
  have e1 : (k == 1) = false := by simp [h1]
  have e2 : (k == 2) = false := by simp [h2]
  by_cases h3 : k ≤ 12
  · have HV : Hid (sortK k = 1) := Lib.hid (by unfold sortK; rw [if_neg (by omega), if_pos h3])
    clear h1 h2
    go_enter Tryd.func78, Tryd.ntmps78
    go_wp2
    go_ret
    exact ⟨by rw [HV.out]; rfl, rfl⟩
  · have HV : Hid (sortK k = 2) := Lib.hid (by unfold sortK; rw [if_neg (by omega), if_neg h3])
    clear h1 h2
    go_enter Tryd.func78, Tryd.ntmps78
    go_wp2
    go_ret
    exact ⟨by rw [HV.out]; rfl, rfl⟩

set_option maxHeartbeats 4000000 in
set_option maxRecDepth 100000 in
theorem level_any (n : Int) (w : World) : Calls Tryd.prog 96 #[.int .i64 n] w fun e w' => e = .returned (.bool (levelB n)) ∧ w = w' := by
  have HV : Hid (levelB n = (decide (0 ≤ n) && decide (n ≤ 1000))) := Lib.hid rfl
  by_cases h1 : 0 ≤ n
  · by_cases h2 : n ≤ 1000
    · have HW : Hid (levelB n = true) := Lib.hid (by rw [HV.out]; simp [h1, h2])
      go_enter Tryd.func96, Tryd.ntmps96
      go_wp2
      go_ret
      exact ⟨by rw [HW.out]; rfl, rfl⟩
    · have HW : Hid (levelB n = false) := Lib.hid (by rw [HV.out]; simp [h2])
      go_enter Tryd.func96, Tryd.ntmps96
      go_wp2
      go_ret
      exact ⟨by rw [HW.out]; rfl, rfl⟩
  · have HW : Hid (levelB n = false) := Lib.hid (by rw [HV.out]; simp [h1])
    go_enter Tryd.func96, Tryd.ntmps96
    go_wp2
    go_ret
    exact ⟨by rw [HW.out]; rfl, rfl⟩

set_option maxHeartbeats 4000000 in
set_option maxRecDepth 100000 in
theorem rlevel_any (n : Int) (w : World) : Calls Tryd.prog 99 #[.int .i64 n] w fun e w' => e = .returned (.bool (levelB n)) ∧ w = w' := by
  have HV : Hid (levelB n = (decide (0 ≤ n) && decide (n ≤ 1000))) := Lib.hid rfl
  by_cases h1 : 0 ≤ n
  · by_cases h2 : n ≤ 1000
    · have HW : Hid (levelB n = true) := Lib.hid (by rw [HV.out]; simp [h1, h2])
      go_enter Tryd.func99, Tryd.ntmps99
      go_wp2
      go_ret
      exact ⟨by rw [HW.out]; rfl, rfl⟩
    · have HW : Hid (levelB n = false) := Lib.hid (by rw [HV.out]; simp [h2])
      go_enter Tryd.func99, Tryd.ntmps99
      go_wp2
      go_ret
      exact ⟨by rw [HW.out]; rfl, rfl⟩
  · have HW : Hid (levelB n = false) := Lib.hid (by rw [HV.out]; simp [h1])
    go_enter Tryd.func99, Tryd.ntmps99
    go_wp2
    go_ret
    exact ⟨by rw [HW.out]; rfl, rfl⟩
end Go.Proofs.YtefjgpahgffmfaaDoor
