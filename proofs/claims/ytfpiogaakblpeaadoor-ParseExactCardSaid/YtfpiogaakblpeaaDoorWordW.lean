/- Walks of deriv.Word, transhipref11.Word, deriv.Rule, transhipref11.Rule. -/
import Derived.Test.YtfpiogaakblpeaaDoorWord
import Derived.Test.YtfpiogaakblpeaaDoorRight
namespace Go.Proofs.YtfpiogaakblpeaaDoor
open Go.RowKit

theorem below_alloc (w : World) (o : Obj) : Below w.heap.size w (w.alloc o) := (Below.refl _ _).alloc (Nat.le_refl _) _

set_option maxRecDepth 100000 in
set_option maxHeartbeats 1000000 in
theorem word_any (r : Int) (w : World) (hr : In64 r) : Calls Tryd.prog 54 #[.int .i64 r] w fun e w' => e = .returned (.string ⟨(wordI r).toArray⟩) ∧ Below w.heap.size w w' := by
  obtain ⟨hr1, hr2⟩ := hr
  by_cases h1 : 1 ≤ r ∧ r ≤ 28
  · obtain ⟨n, hn, rfl⟩ := rules h1.1 h1.2
    have HW := Lib.hid (wordI_at hn)
    have e1 : ¬ ((n : Int) + 1 < 1) := by omega
    have e2 : ¬ (28 < (n : Int) + 1) := by omega
    clear h1 hr1 hr2
    go_enter Tryd.func54, Tryd.ntmps54
    go_wp2_with fail
    refine (words_any _).mono ?_
    rintro e w1 ⟨rfl, hw1⟩
    have hc : w1.cell? ⟨w.heap.size, n, none⟩ = some (.string ⟨(ruleWords.getD n []).toArray⟩) := by rw [hw1]; exact words_cell w _ n hn
    have HB : Hid (Below w.heap.size w w1) := Lib.hid (by rw [hw1]; exact below_alloc _ _)
    clear hw1
    go_wp2
    go_ret
    exact ⟨by rw [HW.out]; rfl, HB.out⟩
  · have HW : Hid (wordI r = []) := Lib.hid (by unfold wordI; rw [if_pos (by omega)])
    by_cases h2 : r < 1
    · clear h1
      go_enter Tryd.func54, Tryd.ntmps54
      go_wp2_with fail
      refine (words_any _).mono ?_
      rintro e w1 ⟨rfl, hw1⟩
      have HB : Hid (Below w.heap.size w w1) := Lib.hid (by rw [hw1]; exact below_alloc _ _)
      clear hw1
      go_wp2
      go_ret
      exact ⟨by rw [HW.out]; rfl, HB.out⟩
    · have h3 : 28 < r := by omega
      clear h1
      go_enter Tryd.func54, Tryd.ntmps54
      go_wp2_with fail
      refine (words_any _).mono ?_
      rintro e w1 ⟨rfl, hw1⟩
      have HB : Hid (Below w.heap.size w w1) := Lib.hid (by rw [hw1]; exact below_alloc _ _)
      clear hw1
      go_wp2
      go_ret
      exact ⟨by rw [HW.out]; rfl, HB.out⟩

set_option maxRecDepth 100000 in
set_option maxHeartbeats 1000000 in
theorem rword_any (r : Int) (w : World) (hr : In64 r) : Calls Tryd.prog 56 #[.int .i64 r] w fun e w' => e = .returned (.string ⟨(wordI r).toArray⟩) ∧ Below w.heap.size w w' := by
  obtain ⟨hr1, hr2⟩ := hr
  by_cases h1 : 1 ≤ r ∧ r ≤ 28
  · obtain ⟨n, hn, rfl⟩ := rules h1.1 h1.2
    have HW := Lib.hid (wordI_at hn)
    have e1 : ¬ ((n : Int) + 1 < 1) := by omega
    have e2 : ¬ (28 < (n : Int) + 1) := by omega
    clear h1 hr1 hr2
    go_enter Tryd.func56, Tryd.ntmps56
    go_wp2_with fail
    refine (rwords_any _).mono ?_
    rintro e w1 ⟨rfl, hw1⟩
    have hc : w1.cell? ⟨w.heap.size, n, none⟩ = some (.string ⟨(ruleWords.getD n []).toArray⟩) := by rw [hw1]; exact words_cell w _ n hn
    have HB : Hid (Below w.heap.size w w1) := Lib.hid (by rw [hw1]; exact below_alloc _ _)
    clear hw1
    go_wp2
    go_ret
    exact ⟨by rw [HW.out]; rfl, HB.out⟩
  · have HW : Hid (wordI r = []) := Lib.hid (by unfold wordI; rw [if_pos (by omega)])
    by_cases h2 : r < 1
    · clear h1
      go_enter Tryd.func56, Tryd.ntmps56
      go_wp2
      go_ret
      exact ⟨by rw [HW.out]; rfl, Below.refl _ _⟩
    · have h3 : 28 < r := by omega
      clear h1
      go_enter Tryd.func56, Tryd.ntmps56
      go_wp2
      go_ret
      exact ⟨by rw [HW.out]; rfl, Below.refl _ _⟩

set_option maxRecDepth 100000 in
set_option maxHeartbeats 1000000 in
theorem rule_any (s : ByteArray) (w : World) : Calls Tryd.prog 74 #[.string s] w fun e w' => e = .returned (.int .i64 (ruleI s.data.toList : Nat)) ∧ Below w.heap.size w w' := by
  go_enter Tryd.func74, Tryd.ntmps74
  go_wp2_with fail
  refine (words_any _).mono ?_
  rintro e w1 ⟨rfl, hw1⟩
  have HC : Hid (∀ n, n < 28 → w1.cell? ⟨w.heap.size, n, none⟩ = some (.string ⟨(ruleWords.getD n []).toArray⟩)) := Lib.hid (fun n hn => by rw [hw1]; exact words_cell w _ n hn)
  have HB : Hid (Below w.heap.size w w1) := Lib.hid (by rw [hw1]; exact below_alloc _ _)
  clear hw1
  go_wp2_with fail
  go_loop [7] (fun i => ∃ k : Nat, k ≤ 28 ∧ i = .int .i64 k ∧ k ≤ ruleWords.idxOf s.data.toList) (fun i => 28 - (intOf i).toNat)
  case atStart => exact ⟨0, by omega, rfl, Nat.zero_le _⟩
  case round =>
    obtain ⟨k, hk, rfl, hidx⟩ := hrel
    by_cases hlt : k < 28
    · have hc := HC.out k hlt
      have hst := idx_step hidx hlt
      have HST := Lib.hid hst
      clear hst hidx
      generalize ruleWords.getD k [] = wd at hc HST
      by_cases he : wd = s.data.toList
      · have hr := HST.out
        rw [if_pos he] at hr
        have HR := Lib.hid hr
        have hb2 : (wd == s.toList) = true := by rw [ByteArray.toList_eq, he]; simp
        clear hr he
        go_wp2
        go_ret
        exact ⟨by rw [HR.out]; exact retInt (by go_num), HB.out⟩
      · have hr := HST.out
        rw [if_neg he] at hr
        have HR := Lib.hid hr
        have hb2 : (wd == s.toList) = false := by rw [ByteArray.toList_eq]; simpa using he
        clear hr he
        go_wp2
        go_round
        case rel => exact ⟨k + 1, by omega, by go_num, HR.out⟩
        case measure => simp [intOf]; omega
    · have hk2 : k = 28 := by omega
      subst hk2
      have HR := Lib.hid (idx_end hidx)
      clear hidx
      go_wp2
      go_ret
      exact ⟨by rw [HR.out]; rfl, HB.out⟩

set_option maxRecDepth 100000 in
set_option maxHeartbeats 1000000 in
theorem rrule_any (s : ByteArray) (w : World) : Calls Tryd.prog 65 #[.string s] w fun e w' => e = .returned (.int .i64 (ruleI s.data.toList : Nat)) ∧ Below w.heap.size w w' := by
  go_enter Tryd.func65, Tryd.ntmps65
  go_wp2_with fail
  refine (rwords_any _).mono ?_
  rintro e w1 ⟨rfl, hw1⟩
  have HC : Hid (∀ n, n < 28 → w1.cell? ⟨w.heap.size, n, none⟩ = some (.string ⟨(ruleWords.getD n []).toArray⟩)) := Lib.hid (fun n hn => by rw [hw1]; exact words_cell w _ n hn)
  have HB : Hid (Below w.heap.size w w1) := Lib.hid (by rw [hw1]; exact below_alloc _ _)
  clear hw1
  go_wp2_with fail
  go_loop [4] (fun i => ∃ k : Nat, k ≤ 28 ∧ i = .int .i64 k ∧ k ≤ ruleWords.idxOf s.data.toList) (fun i => 28 - (intOf i).toNat)
  case atStart => exact ⟨0, by omega, rfl, Nat.zero_le _⟩
  case round =>
    obtain ⟨k, hk, rfl, hidx⟩ := hrel
    by_cases hlt : k < 28
    · have hc := HC.out k hlt
      have hst := idx_step hidx hlt
      have HST := Lib.hid hst
      clear hst hidx
      generalize ruleWords.getD k [] = wd at hc HST
      by_cases he : wd = s.data.toList
      · have hr := HST.out
        rw [if_pos he] at hr
        have HR := Lib.hid hr
        have hb2 : (wd == s.toList) = true := by rw [ByteArray.toList_eq, he]; simp
        clear hr he
        go_wp2
        go_ret
        exact ⟨by rw [HR.out]; exact retInt (by go_num), HB.out⟩
      · have hr := HST.out
        rw [if_neg he] at hr
        have HR := Lib.hid hr
        have hb2 : (wd == s.toList) = false := by rw [ByteArray.toList_eq]; simpa using he
        clear hr he
        go_wp2
        go_round
        case rel => exact ⟨k + 1, by omega, by go_num, HR.out⟩
        case measure => simp [intOf]; omega
    · have hk2 : k = 28 := by omega
      subst hk2
      have HR := Lib.hid (idx_end hidx)
      clear hidx
      go_wp2
      go_ret
      exact ⟨by rw [HR.out]; rfl, HB.out⟩
end Go.Proofs.YtfpiogaakblpeaaDoor
