/- Walks of read.names, Name; of the reference's; of write.name, plain, word. -/
import Derived.Test.YtefjgpahgffmfaaDoorTf
import Derived.Test.YtefjgpahgffmfaaDoorKit
namespace Go.Proofs.YtefjgpahgffmfaaDoor
open Go.RowKit

theorem itoa_le {i : Int} (h : In64 i) : (Lib.itoa i).length ≤ 20 := by
  obtain ⟨h1, h2⟩ := h
  have key : ∀ u : Nat, u < 10 ^ 19 → (Lib.decDigits u).length ≤ 19 := fun u hu => by
    rw [Lib.decDigits_length]; exact nDigits_le 18 u hu
  by_cases hn : 0 ≤ i
  · obtain ⟨u, rfl⟩ := Int.eq_ofNat_of_zero_le hn
    rw [Lib.itoa_nonneg]
    have := key u (by omega)
    omega
  · obtain ⟨u, rfl⟩ : ∃ u : Nat, i = -(u : Int) := ⟨i.natAbs, by omega⟩
    rw [Lib.itoa_neg u (by omega)]
    have := key u (by omega)
    simp only [List.length_cons]
    omega
theorem symK_le (n : Int) : (symK n).length ≤ 6 := by
  unfold symK
  by_cases h : n < 1 ∨ 21 < n
  · rw [if_pos h]; simp
  · rw [if_neg h]
    match (n - 1).toNat with
    | 0 | 1 | 2 | 3 | 4 | 5 | 6 | 7 | 8 | 9 | 10 | 11 | 12 | 13 | 14 | 15 | 16 | 17 | 18 | 19 | 20 => decide
    | m + 21 => simp [symWords]

def symBlock : Array Value := #[.string ⟨#[117, 105, 112]⟩, .string ⟨#[102, 117, 110, 101, 120, 116]⟩, .string ⟨#[115, 121, 109]⟩, .string ⟨#[116, 114, 97, 110, 115]⟩, .string ⟨#[116, 114]⟩, .string ⟨#[104, 101, 116]⟩, .string ⟨#[116, 121, 112]⟩, .string ⟨#[116, 114, 104]⟩, .string ⟨#[104, 112]⟩, .string ⟨#[104, 50, 101]⟩, .string ⟨#[101, 50, 104]⟩, .string ⟨#[114, 112]⟩, .string ⟨#[99, 112, 105]⟩, .string ⟨#[99, 115, 105, 103]⟩, .string ⟨#[99, 108, 97, 109]⟩, .string ⟨#[99, 97, 112, 112]⟩, .string ⟨#[99, 112, 97, 105, 114]⟩, .string ⟨#[99, 102, 115, 116]⟩, .string ⟨#[99, 115, 110, 100]⟩, .string ⟨#[99, 101, 113]⟩, .string ⟨#[99, 114, 101, 102, 108]⟩]

theorem sym_cell (w : World) (t : TypeId) (n : Nat) (h : n < 21) : (w.alloc (.cells symBlock t)).cell? ⟨w.heap.size, n, none⟩ = some (.string ⟨(symWords.getD n []).toArray⟩) := by
  have e : (w.alloc (.cells symBlock t)).cell? ⟨w.heap.size, n, none⟩ = symBlock[n]? := by simp [go_sem]
  rw [e]
  match n, h with
  | 0, _ | 1, _ | 2, _ | 3, _ | 4, _ | 5, _ | 6, _ | 7, _ | 8, _ | 9, _ | 10, _ | 11, _ | 12, _ | 13, _ | 14, _ | 15, _ | 16, _ | 17, _ | 18, _ | 19, _ | 20, _ => rfl
  | k + 21, h => exact absurd h (by omega)

set_option maxHeartbeats 4000000 in
set_option maxRecDepth 100000 in
theorem names_any (w : World) : Calls Tryd.prog 50 #[] w fun e w' => e = .returned (.slice (some ⟨w.heap.size, 0, none⟩) 21 21) ∧ Below w.heap.size w w' ∧ ∀ m, m < 21 → w'.cell? ⟨w.heap.size, m, none⟩ = some (.string ⟨(symWords.getD m []).toArray⟩) := by
  have HC := Lib.hid fun m hm => sym_cell w 9 m hm
  go_enter Tryd.func50, Tryd.ntmps50
  go_wp2
  go_ret
  exact ⟨rfl, below_alloc _ _, HC.out⟩

set_option maxHeartbeats 4000000 in
set_option maxRecDepth 100000 in
theorem rnames_any (w : World) : Calls Tryd.prog 51 #[] w fun e w' => e = .returned (.slice (some ⟨w.heap.size, 0, none⟩) 21 21) ∧ Below w.heap.size w w' ∧ ∀ m, m < 21 → w'.cell? ⟨w.heap.size, m, none⟩ = some (.string ⟨(symWords.getD m []).toArray⟩) := by
  have HC := Lib.hid fun m hm => sym_cell w 9 m hm
  go_enter Tryd.func51, Tryd.ntmps51
  go_wp2
  go_ret
  exact ⟨rfl, below_alloc _ _, HC.out⟩

set_option maxHeartbeats 4000000 in
set_option maxRecDepth 100000 in
theorem readName_any (n : Int) (w : World) (h0 : In64 n) : Calls Tryd.prog 28 #[.int .i64 n] w fun e w' => e = .returned (.string ⟨(symK n).toArray⟩) ∧ Below w.heap.size w w' := by
  obtain ⟨n1, n2⟩ := h0
  by_cases h : 1 ≤ n ∧ n ≤ 21
  · obtain ⟨m, hm, en⟩ : ∃ m : Nat, m < 21 ∧ n - 1 = (m : Int) := ⟨(n - 1).toNat, by omega, by omega⟩
    have HV : Hid (symK n = symWords.getD m []) := Lib.hid (by
      unfold symK
      rw [if_neg (by omega), en, Int.toNat_natCast])
    have e1 : ¬ (n < 1) := by omega
    have e2 : ¬ (21 < n) := by omega
    clear h
    go_enter Tryd.func28, Tryd.ntmps28
    go_wp2_with fail
    refine (names_any _).mono ?_
    rintro e w1 ⟨rfl, hb1, hc1⟩
    have HB1 := Lib.hid hb1
    have hcell := hc1 m hm
    clear hb1 hc1
    generalize symWords.getD m [] = sw at HV hcell
    go_wp2
    go_ret
    exact ⟨by rw [HV.out]; rfl, HB1.out⟩
  · have HV : Hid (symK n = []) := Lib.hid (by unfold symK; rw [if_pos (by omega)])
    by_cases h1 : n < 1
    · clear h
      go_enter Tryd.func28, Tryd.ntmps28
      go_wp2_with fail
      refine (names_any _).mono ?_
      rintro e w1 ⟨rfl, hb1, hc1⟩
      have HB1 := Lib.hid hb1
      clear hb1 hc1
      go_wp2
      go_ret
      exact ⟨by rw [HV.out]; rfl, HB1.out⟩
    · have h2 : 21 < n := by omega
      clear h
      go_enter Tryd.func28, Tryd.ntmps28
      go_wp2_with fail
      refine (names_any _).mono ?_
      rintro e w1 ⟨rfl, hb1, hc1⟩
      have HB1 := Lib.hid hb1
      clear hb1 hc1
      go_wp2
      go_ret
      exact ⟨by rw [HV.out]; rfl, HB1.out⟩

set_option maxHeartbeats 4000000 in
set_option maxRecDepth 100000 in
theorem rName_any (n : Int) (w : World) (h0 : In64 n) : Calls Tryd.prog 29 #[.int .i64 n] w fun e w' => e = .returned (.string ⟨(symK n).toArray⟩) ∧ Below w.heap.size w w' := by
  obtain ⟨n1, n2⟩ := h0
  by_cases h : 1 ≤ n ∧ n ≤ 21
  · obtain ⟨m, hm, en⟩ : ∃ m : Nat, m < 21 ∧ n - 1 = (m : Int) := ⟨(n - 1).toNat, by omega, by omega⟩
    have HV : Hid (symK n = symWords.getD m []) := Lib.hid (by
      unfold symK
      rw [if_neg (by omega), en, Int.toNat_natCast])
    have e1 : ¬ (n < 1) := by omega
    have e2 : ¬ (21 < n) := by omega
    clear h
    go_enter Tryd.func29, Tryd.ntmps29
    go_wp2_with fail
    refine (rnames_any _).mono ?_
    rintro e w1 ⟨rfl, hb1, hc1⟩
    have HB1 := Lib.hid hb1
    have hcell := hc1 m hm
    clear hb1 hc1
    generalize symWords.getD m [] = sw at HV hcell
    go_wp2
    go_ret
    exact ⟨by rw [HV.out]; rfl, HB1.out⟩
  · have HV : Hid (symK n = []) := Lib.hid (by unfold symK; rw [if_pos (by omega)])
    by_cases h1 : n < 1
    · clear h
      go_enter Tryd.func29, Tryd.ntmps29
      go_wp2_with fail
      refine (rnames_any _).mono ?_
      rintro e w1 ⟨rfl, hb1, hc1⟩
      have HB1 := Lib.hid hb1
      clear hb1 hc1
      go_wp2
      go_ret
      exact ⟨by rw [HV.out]; rfl, HB1.out⟩
    · have h2 : 21 < n := by omega
      clear h
      go_enter Tryd.func29, Tryd.ntmps29
      go_wp2_with fail
      refine (rnames_any _).mono ?_
      rintro e w1 ⟨rfl, hb1, hc1⟩
      have HB1 := Lib.hid hb1
      clear hb1 hc1
      go_wp2
      go_ret
      exact ⟨by rw [HV.out]; rfl, HB1.out⟩

set_option maxHeartbeats 4000000 in
set_option maxRecDepth 100000 in
theorem name_any (n : Int) (w : World) (h0 : In64 n) (ht : Tab w) : Calls Tryd.prog 42 #[.int .i64 n] w fun e w' => e = .returned (.string ⟨(nameL n).toArray⟩) ∧ Below w.heap.size w w' := by
  have HT := Lib.hid ht
  have HN := Lib.hid h0
  clear ht h0
  have hl : ¬ (9223372036854775807 < 1 + (Lib.itoa n).length) := by have := itoa_le HN.out; omega
  have E : Hid ((ByteArray.mk #[118]) ++ (ByteArray.mk (Lib.itoa n).toArray) = ⟨(nameL n).toArray⟩) := Lib.hid (str_append [118] (Lib.itoa n))
  go_enter Tryd.func42, Tryd.ntmps42
  go_wp2_with fail
  refine (put_any n _ HN.out.1 HN.out.2 HT.out).mono ?_
  rintro e w1 ⟨rfl, hb1⟩
  have HB1 := Lib.hid hb1
  clear hb1
  go_wp2
  go_ret
  exact ⟨by rw [← E.out]; rfl, HB1.out⟩

def wordF (k n : Int) : List UInt8 := wordK k ++ (if k = 23 then 32 :: symK n else [])

set_option maxHeartbeats 4000000 in
set_option maxRecDepth 100000 in
theorem plain_any (k i j n : Int) (a : Option Addr) (l c : Nat) (w : World) (hk : 13 ≤ k ∧ k ≤ 23) (h0 : In64 n) : Calls Tryd.prog 82 #[termV k i j n (.slice a l c)] w fun e w' => e = .returned (.tuple #[.string ⟨(wordF k n).toArray⟩, .int .i64 (levelsK k : Nat)]) ∧ Below w.heap.size w w' := by
  have HN := Lib.hid h0
  clear h0
  unfold termV
  by_cases h23 : k = 23
  · subst h23
    have hl : ¬ (9223372036854775807 < 4 + (symK n).length) := by have := symK_le n; omega
    have E : Hid ((ByteArray.mk #[117, 115, 101, 32]) ++ (ByteArray.mk (symK n).toArray) = ⟨(wordF 23 n).toArray⟩) := Lib.hid (str_append [117, 115, 101, 32] (symK n))
    clear hk
    go_enter Tryd.func82, Tryd.ntmps82
    go_wp2_with fail
    refine (readName_any n _ HN.out).mono ?_
    rintro e w1 ⟨rfl, hb1⟩
    have HB1 := Lib.hid ((below_alloc w (.cells #[.int .i64 23, .int .i64 i, .int .i64 j, .int .i64 n, .slice a l c] 24)).trans (hb1.mono (by simp)))
    clear hb1
    go_wp2
    go_ret2
    exact ⟨by rw [← E.out]; rfl, HB1.out⟩
  · have h2 : k = 13 ∨ k = 14 ∨ k = 15 ∨ k = 16 ∨ k = 17 ∨ k = 18 ∨ k = 19 ∨ k = 20 ∨ k = 21 ∨ k = 22 := by omega
    clear hk h23
    rcases h2 with rfl | rfl | rfl | rfl | rfl | rfl | rfl | rfl | rfl | rfl
    all_goals
      go_enter Tryd.func82, Tryd.ntmps82
      go_wp2
      go_ret2
      exact ⟨rfl, below_alloc _ _⟩

set_option maxHeartbeats 4000000 in
set_option maxRecDepth 100000 in
theorem word_any (k i j n : Int) (a : Option Addr) (l c : Nat) (w : World) (hk : 1 ≤ k ∧ k ≤ 23) (hk2 : k ≠ 2) (h0 : In64 n) : Calls Tryd.prog 55 #[termV k i j n (.slice a l c)] w fun e w' => e = .returned (.tuple #[.string ⟨(wordF k n).toArray⟩, .int .i64 (levelsK k : Nat)]) ∧ Below w.heap.size w w' := by
  have HN := Lib.hid h0
  clear h0
  by_cases h13 : 13 ≤ k
  · have hp : 13 ≤ k ∧ k ≤ 23 := ⟨h13, hk.2⟩
    have e1 : (k == 1) = false := by simp; omega
    have e3 : (k == 3) = false := by simp; omega
    have e4 : (k == 4) = false := by simp; omega
    have e5 : (k == 5) = false := by simp; omega
    have e6 : (k == 6) = false := by simp; omega
    have e7 : (k == 7) = false := by simp; omega
    have e8 : (k == 8) = false := by simp; omega
    have e9 : (k == 9) = false := by simp; omega
    have e10 : (k == 10) = false := by simp; omega
    have e11 : (k == 11) = false := by simp; omega
    have e12 : (k == 12) = false := by simp; omega
    have HP := Lib.hid hp
    clear hp h13 hk hk2
    unfold termV
    go_enter Tryd.func55, Tryd.ntmps55
    go_wp2_with fail
    refine (plain_any k i j n a l c _ HP.out HN.out).mono ?_
    rintro e w1 ⟨rfl, hb1⟩
    have HB1 := Lib.hid ((below_alloc w (.cells #[.int .i64 k, .int .i64 i, .int .i64 j, .int .i64 n, .slice a l c] 24)).trans (hb1.mono (by simp)))
    clear hb1
    go_wp2
    go_ret2
    exact ⟨rfl, HB1.out⟩
  · have h2 : k = 1 ∨ k = 3 ∨ k = 4 ∨ k = 5 ∨ k = 6 ∨ k = 7 ∨ k = 8 ∨ k = 9 ∨ k = 10 ∨ k = 11 ∨ k = 12 := by omega
    clear hk h13 hk2
    unfold termV
    rcases h2 with rfl | rfl | rfl | rfl | rfl | rfl | rfl | rfl | rfl | rfl | rfl
    all_goals
      go_enter Tryd.func55, Tryd.ntmps55
      go_wp2
      go_ret2
      exact ⟨rfl, below_alloc _ _⟩
end Go.Proofs.YtefjgpahgffmfaaDoor
