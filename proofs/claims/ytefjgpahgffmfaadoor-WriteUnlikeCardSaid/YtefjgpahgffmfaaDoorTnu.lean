/- Walks of term.numbers and transhipref04.numbers. -/
import Derived.Test.YtefjgpahgffmfaaDoorTsw
namespace Go.Proofs.YtefjgpahgffmfaaDoor
open Go.RowKit

set_option maxHeartbeats 4000000 in
set_option maxRecDepth 100000 in
theorem numbers_any (k i j n : Int) (a : Option Addr) (l c : Nat) (w : World) : Calls Tryd.prog 80 #[termV k i j n (.slice a l c)] w fun e w' => e = .returned (.bool (numbersB k i j n)) ∧ Below w.heap.size w w' := by
  have hj : (j == 0) = true ∨ (j == 0) = false := by cases (j == 0) <;> simp
  have hn : (n == 0) = true ∨ (n == 0) = false := by cases (n == 0) <;> simp
  have hi : (i == 0) = true ∨ (i == 0) = false := by cases (i == 0) <;> simp
  unfold termV
  by_cases hA : k = 1 ∨ k = 10 ∨ k = 11 ∨ k = 12
  · have HV : Hid (numbersB k i j n = (levelB i && j == 0 && n == 0)) := Lib.hid (by unfold numbersB; rw [if_pos hA])
    generalize numbersB k i j n = nb at HV
    cases hli : levelB i
    · have HW : Hid (nb = false) := Lib.hid (by rw [HV.out, hli]; rfl)
      have HL := Lib.hid hli
      clear hli hj hn hi
      rcases hA with rfl | rfl | rfl | rfl
      all_goals
        go_enter Tryd.func80, Tryd.ntmps80
        go_wp2_with fail
        refine (level_any i _).mono ?_
        rintro e w1 ⟨rfl, rfl⟩
        rw [HL.out]
        go_wp2
        go_ret
        exact ⟨by rw [HW.out]; rfl, below_alloc _ _⟩
    · have HL := Lib.hid hli
      rcases hj with hj | hj <;> rcases hn with hn | hn
      all_goals
        have HW : Hid (nb = ((j == 0) && (n == 0))) := Lib.hid (by rw [HV.out, hli]; rfl)
        rw [hj, hn] at HW
      all_goals
        clear hli hi
        rcases hA with rfl | rfl | rfl | rfl
      all_goals
        go_enter Tryd.func80, Tryd.ntmps80
        go_wp2_with fail
        refine (level_any i _).mono ?_
        rintro e w1 ⟨rfl, rfl⟩
        rw [HL.out]
        go_wp2
        go_ret
        exact ⟨by rw [HW.out]; rfl, below_alloc _ _⟩
  by_cases h2 : k = 2
  · subst h2
    have HV : Hid (numbersB 2 i j n = (decide (0 ≤ i) && decide (i ≤ 2147483647) && j == 0 && n == 0)) := Lib.hid rfl
    generalize numbersB 2 i j n = nb at HV
    by_cases g1 : 0 ≤ i
    · by_cases g2 : i ≤ 2147483647
      · rcases hj with hj | hj <;> rcases hn with hn | hn
        all_goals
          have HW : Hid (nb = ((j == 0) && (n == 0))) := Lib.hid (by rw [HV.out]; simp [g1, g2])
          rw [hj, hn] at HW
          clear hi hA
          go_enter Tryd.func80, Tryd.ntmps80
          go_wp2
          go_ret
          exact ⟨by rw [HW.out]; rfl, below_alloc _ _⟩
      · have HW : Hid (nb = false) := Lib.hid (by rw [HV.out]; simp [g2])
        clear hi hj hn hA
        go_enter Tryd.func80, Tryd.ntmps80
        go_wp2
        go_ret
        exact ⟨by rw [HW.out]; rfl, below_alloc _ _⟩
    · have HW : Hid (nb = false) := Lib.hid (by rw [HV.out]; simp [g1])
      clear hi hj hn hA
      go_enter Tryd.func80, Tryd.ntmps80
      go_wp2
      go_ret
      exact ⟨by rw [HW.out]; rfl, below_alloc _ _⟩
  by_cases h3 : k = 3 ∨ k = 4 ∨ k = 5 ∨ k = 6 ∨ k = 7 ∨ k = 8 ∨ k = 9
  · have HV : Hid (numbersB k i j n = (levelB i && levelB j && n == 0)) := Lib.hid (by unfold numbersB; rw [if_neg hA, if_neg h2, if_pos h3])
    generalize numbersB k i j n = nb at HV
    clear hA h2 hi hj
    cases hli : levelB i
    · have HW : Hid (nb = false) := Lib.hid (by rw [HV.out, hli]; rfl)
      have HL := Lib.hid hli
      clear hli hn
      rcases h3 with rfl | rfl | rfl | rfl | rfl | rfl | rfl
      all_goals
        go_enter Tryd.func80, Tryd.ntmps80
        go_wp2_with fail
        refine (level_any i _).mono ?_
        rintro e w1 ⟨rfl, rfl⟩
        rw [HL.out]
        go_wp2
        go_ret
        exact ⟨by rw [HW.out]; rfl, below_alloc _ _⟩
    · have HL := Lib.hid hli
      cases hlj : levelB j
      all_goals
        have HW : Hid (nb = (levelB j && (n == 0))) := Lib.hid (by rw [HV.out, hli]; rfl)
        rw [hlj] at HW
        have HLJ := Lib.hid hlj
        clear hli hlj
      · clear hn
        rcases h3 with rfl | rfl | rfl | rfl | rfl | rfl | rfl
        all_goals
          go_enter Tryd.func80, Tryd.ntmps80
          go_wp2_with fail
          refine (level_any i _).mono ?_
          rintro e w1 ⟨rfl, rfl⟩
          rw [HL.out]
          go_wp2_with fail
          refine (level_any j _).mono ?_
          rintro e w1 ⟨rfl, rfl⟩
          rw [HLJ.out]
          go_wp2
          go_ret
          exact ⟨by rw [HW.out]; rfl, below_alloc _ _⟩
      · rcases hn with hn | hn
        all_goals
          rw [hn] at HW
          rcases h3 with rfl | rfl | rfl | rfl | rfl | rfl | rfl
        all_goals
          go_enter Tryd.func80, Tryd.ntmps80
          go_wp2_with fail
          refine (level_any i _).mono ?_
          rintro e w1 ⟨rfl, rfl⟩
          rw [HL.out]
          go_wp2_with fail
          refine (level_any j _).mono ?_
          rintro e w1 ⟨rfl, rfl⟩
          rw [HLJ.out]
          go_wp2
          go_ret
          exact ⟨by rw [HW.out]; rfl, below_alloc _ _⟩
  by_cases h4 : k = 23
  · subst h4
    have HV : Hid (numbersB 23 i j n = (levelB i && levelB j)) := Lib.hid rfl
    generalize numbersB 23 i j n = nb at HV
    clear hA h2 hi hj hn h3
    cases hli : levelB i
    · have HW : Hid (nb = false) := Lib.hid (by rw [HV.out, hli]; rfl)
      have HL := Lib.hid hli
      clear hli
      go_enter Tryd.func80, Tryd.ntmps80
      go_wp2_with fail
      refine (level_any i _).mono ?_
      rintro e w1 ⟨rfl, rfl⟩
      rw [HL.out]
      go_wp2
      go_ret
      exact ⟨by rw [HW.out]; rfl, below_alloc _ _⟩
    · have HW : Hid (nb = levelB j) := Lib.hid (by rw [HV.out, hli]; rfl)
      have HL := Lib.hid hli
      clear hli
      go_enter Tryd.func80, Tryd.ntmps80
      go_wp2_with fail
      refine (level_any i _).mono ?_
      rintro e w1 ⟨rfl, rfl⟩
      rw [HL.out]
      go_wp2_with fail
      refine (level_any j _).mono ?_
      rintro e w1 ⟨rfl, rfl⟩
      go_wp2
      go_ret
      exact ⟨by rw [HW.out]; rfl, below_alloc _ _⟩
  have HV : Hid (numbersB k i j n = (i == 0 && j == 0 && n == 0)) := Lib.hid (by unfold numbersB; rw [if_neg hA, if_neg h2, if_neg h3, if_neg h4])
  generalize numbersB k i j n = nb at HV
  have e1 : (k == 1) = false := by simp; omega
  have e2 : (k == 2) = false := by simp; omega
  have e3 : (k == 3) = false := by simp; omega
  have e4 : (k == 4) = false := by simp; omega
  have e5 : (k == 5) = false := by simp; omega
  have e6 : (k == 6) = false := by simp; omega
  have e7 : (k == 7) = false := by simp; omega
  have e8 : (k == 8) = false := by simp; omega
  have e9 : (k == 9) = false := by simp; omega
  have e10 : (k == 10) = false := by simp; omega
  have e11 : (k == 11) = false := by simp; omega
  have e12 : (k == 12) = false := by simp; omega
  have e23 : (k == 23) = false := by simp; omega
  clear hA h2 h3 h4
  rcases hi with hi | hi <;> rcases hj with hj | hj <;> rcases hn with hn | hn
  all_goals
    rw [hi, hj, hn] at HV
    go_enter Tryd.func80, Tryd.ntmps80
    go_wp2
    go_ret
    exact ⟨by rw [HV.out]; rfl, below_alloc _ _⟩

set_option maxHeartbeats 4000000 in
set_option maxRecDepth 100000 in
theorem rnumbers_any (k i j n : Int) (a : Option Addr) (l c : Nat) (w : World) : Calls Tryd.prog 85 #[termV k i j n (.slice a l c)] w fun e w' => e = .returned (.bool (numbersB k i j n)) ∧ Below w.heap.size w w' := by
  have hj : (j == 0) = true ∨ (j == 0) = false := by cases (j == 0) <;> simp
  have hn : (n == 0) = true ∨ (n == 0) = false := by cases (n == 0) <;> simp
  have hi : (i == 0) = true ∨ (i == 0) = false := by cases (i == 0) <;> simp
  unfold termV
  by_cases hA : k = 1 ∨ k = 10 ∨ k = 11 ∨ k = 12
  · have HV : Hid (numbersB k i j n = (levelB i && j == 0 && n == 0)) := Lib.hid (by unfold numbersB; rw [if_pos hA])
    generalize numbersB k i j n = nb at HV
    cases hli : levelB i
    · have HW : Hid (nb = false) := Lib.hid (by rw [HV.out, hli]; rfl)
      have HL := Lib.hid hli
      clear hli hj hn hi
      rcases hA with rfl | rfl | rfl | rfl
      all_goals
        go_enter Tryd.func85, Tryd.ntmps85
        go_wp2_with fail
        refine (rlevel_any i _).mono ?_
        rintro e w1 ⟨rfl, rfl⟩
        rw [HL.out]
        go_wp2
        go_ret
        exact ⟨by rw [HW.out]; rfl, below_alloc _ _⟩
    · have HL := Lib.hid hli
      rcases hj with hj | hj <;> rcases hn with hn | hn
      all_goals
        have HW : Hid (nb = ((j == 0) && (n == 0))) := Lib.hid (by rw [HV.out, hli]; rfl)
        rw [hj, hn] at HW
      all_goals
        clear hli hi
        rcases hA with rfl | rfl | rfl | rfl
      all_goals
        go_enter Tryd.func85, Tryd.ntmps85
        go_wp2_with fail
        refine (rlevel_any i _).mono ?_
        rintro e w1 ⟨rfl, rfl⟩
        rw [HL.out]
        go_wp2
        go_ret
        exact ⟨by rw [HW.out]; rfl, below_alloc _ _⟩
  by_cases h2 : k = 2
  · subst h2
    have HV : Hid (numbersB 2 i j n = (decide (0 ≤ i) && decide (i ≤ 2147483647) && j == 0 && n == 0)) := Lib.hid rfl
    generalize numbersB 2 i j n = nb at HV
    by_cases g1 : 0 ≤ i
    · by_cases g2 : i ≤ 2147483647
      · rcases hj with hj | hj <;> rcases hn with hn | hn
        all_goals
          have HW : Hid (nb = ((j == 0) && (n == 0))) := Lib.hid (by rw [HV.out]; simp [g1, g2])
          rw [hj, hn] at HW
          clear hi hA
          go_enter Tryd.func85, Tryd.ntmps85
          go_wp2
          go_ret
          exact ⟨by rw [HW.out]; rfl, below_alloc _ _⟩
      · have HW : Hid (nb = false) := Lib.hid (by rw [HV.out]; simp [g2])
        clear hi hj hn hA
        go_enter Tryd.func85, Tryd.ntmps85
        go_wp2
        go_ret
        exact ⟨by rw [HW.out]; rfl, below_alloc _ _⟩
    · have HW : Hid (nb = false) := Lib.hid (by rw [HV.out]; simp [g1])
      clear hi hj hn hA
      go_enter Tryd.func85, Tryd.ntmps85
      go_wp2
      go_ret
      exact ⟨by rw [HW.out]; rfl, below_alloc _ _⟩
  by_cases h3 : k = 3 ∨ k = 4 ∨ k = 5 ∨ k = 6 ∨ k = 7 ∨ k = 8 ∨ k = 9
  · have HV : Hid (numbersB k i j n = (levelB i && levelB j && n == 0)) := Lib.hid (by unfold numbersB; rw [if_neg hA, if_neg h2, if_pos h3])
    generalize numbersB k i j n = nb at HV
    clear hA h2 hi hj
    cases hli : levelB i
    · have HW : Hid (nb = false) := Lib.hid (by rw [HV.out, hli]; rfl)
      have HL := Lib.hid hli
      clear hli hn
      rcases h3 with rfl | rfl | rfl | rfl | rfl | rfl | rfl
      all_goals
        go_enter Tryd.func85, Tryd.ntmps85
        go_wp2_with fail
        refine (rlevel_any i _).mono ?_
        rintro e w1 ⟨rfl, rfl⟩
        rw [HL.out]
        go_wp2
        go_ret
        exact ⟨by rw [HW.out]; rfl, below_alloc _ _⟩
    · have HL := Lib.hid hli
      cases hlj : levelB j
      all_goals
        have HW : Hid (nb = (levelB j && (n == 0))) := Lib.hid (by rw [HV.out, hli]; rfl)
        rw [hlj] at HW
        have HLJ := Lib.hid hlj
        clear hli hlj
      · clear hn
        rcases h3 with rfl | rfl | rfl | rfl | rfl | rfl | rfl
        all_goals
          go_enter Tryd.func85, Tryd.ntmps85
          go_wp2_with fail
          refine (rlevel_any i _).mono ?_
          rintro e w1 ⟨rfl, rfl⟩
          rw [HL.out]
          go_wp2_with fail
          refine (rlevel_any j _).mono ?_
          rintro e w1 ⟨rfl, rfl⟩
          rw [HLJ.out]
          go_wp2
          go_ret
          exact ⟨by rw [HW.out]; rfl, below_alloc _ _⟩
      · rcases hn with hn | hn
        all_goals
          rw [hn] at HW
          rcases h3 with rfl | rfl | rfl | rfl | rfl | rfl | rfl
        all_goals
          go_enter Tryd.func85, Tryd.ntmps85
          go_wp2_with fail
          refine (rlevel_any i _).mono ?_
          rintro e w1 ⟨rfl, rfl⟩
          rw [HL.out]
          go_wp2_with fail
          refine (rlevel_any j _).mono ?_
          rintro e w1 ⟨rfl, rfl⟩
          rw [HLJ.out]
          go_wp2
          go_ret
          exact ⟨by rw [HW.out]; rfl, below_alloc _ _⟩
  by_cases h4 : k = 23
  · subst h4
    have HV : Hid (numbersB 23 i j n = (levelB i && levelB j)) := Lib.hid rfl
    generalize numbersB 23 i j n = nb at HV
    clear hA h2 hi hj hn h3
    cases hli : levelB i
    · have HW : Hid (nb = false) := Lib.hid (by rw [HV.out, hli]; rfl)
      have HL := Lib.hid hli
      clear hli
      go_enter Tryd.func85, Tryd.ntmps85
      go_wp2_with fail
      refine (rlevel_any i _).mono ?_
      rintro e w1 ⟨rfl, rfl⟩
      rw [HL.out]
      go_wp2
      go_ret
      exact ⟨by rw [HW.out]; rfl, below_alloc _ _⟩
    · have HW : Hid (nb = levelB j) := Lib.hid (by rw [HV.out, hli]; rfl)
      have HL := Lib.hid hli
      clear hli
      go_enter Tryd.func85, Tryd.ntmps85
      go_wp2_with fail
      refine (rlevel_any i _).mono ?_
      rintro e w1 ⟨rfl, rfl⟩
      rw [HL.out]
      go_wp2_with fail
      refine (rlevel_any j _).mono ?_
      rintro e w1 ⟨rfl, rfl⟩
      go_wp2
      go_ret
      exact ⟨by rw [HW.out]; rfl, below_alloc _ _⟩
  have HV : Hid (numbersB k i j n = (i == 0 && j == 0 && n == 0)) := Lib.hid (by unfold numbersB; rw [if_neg hA, if_neg h2, if_neg h3, if_neg h4])
  generalize numbersB k i j n = nb at HV
  have e1 : (k == 1) = false := by simp; omega
  have e2 : (k == 2) = false := by simp; omega
  have e3 : (k == 3) = false := by simp; omega
  have e4 : (k == 4) = false := by simp; omega
  have e5 : (k == 5) = false := by simp; omega
  have e6 : (k == 6) = false := by simp; omega
  have e7 : (k == 7) = false := by simp; omega
  have e8 : (k == 8) = false := by simp; omega
  have e9 : (k == 9) = false := by simp; omega
  have e10 : (k == 10) = false := by simp; omega
  have e11 : (k == 11) = false := by simp; omega
  have e12 : (k == 12) = false := by simp; omega
  have e23 : (k == 23) = false := by simp; omega
  clear hA h2 h3 h4
  rcases hi with hi | hi <;> rcases hj with hj | hj <;> rcases hn with hn | hn
  all_goals
    rw [hi, hj, hn] at HV
    go_enter Tryd.func85, Tryd.ntmps85
    go_wp2
    go_ret
    exact ⟨by rw [HV.out]; rfl, below_alloc _ _⟩
end Go.Proofs.YtefjgpahgffmfaaDoor
