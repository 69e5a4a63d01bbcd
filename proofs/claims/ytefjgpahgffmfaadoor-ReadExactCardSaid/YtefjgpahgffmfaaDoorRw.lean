/- Walks of transhipref09.marked, plain, write, Write. -/
import Derived.Test.YtefjgpahgffmfaaDoorSr
import Derived.Test.YtefjgpahgffmfaaDoorRtf
import Derived.Test.YtefjgpahgffmfaaDoorRefPut
import Derived.Deep.DeepCutAuto
import Derived.Deep.CutBlock
import Derived.Deep.RegionWith
namespace Go.Proofs.YtefjgpahgffmfaaDoor
open Go.RowKit

def rmarkedLBlock : Array Value := #[.string ⟨#[115, 111, 114, 116]⟩, .string ⟨#[]⟩, .string ⟨#[112, 105]⟩, .string ⟨#[108, 97, 109]⟩, .string ⟨#[97, 112, 112]⟩, .string ⟨#[115, 105, 103]⟩, .string ⟨#[112, 97, 105, 114]⟩, .string ⟨#[102, 115, 116]⟩, .string ⟨#[115, 110, 100]⟩, .string ⟨#[101, 113]⟩, .string ⟨#[114, 101, 102, 108]⟩, .string ⟨#[116, 114]⟩]
theorem rmarkedL_cell (w : World) (t : TypeId) (m : Nat) (h : m < 12) : (w.alloc (.cells rmarkedLBlock t)).cell? ⟨w.heap.size, m, none⟩ = some (.string ⟨(markWords.getD (m + 0) []).toArray⟩) := by
  have e : (w.alloc (.cells rmarkedLBlock t)).cell? ⟨w.heap.size, m, none⟩ = rmarkedLBlock[m]? := by simp [go_sem]
  rw [e]
  match m, h with
  | 0, _ | 1, _ | 2, _ | 3, _ | 4, _ | 5, _ | 6, _ | 7, _ | 8, _ | 9, _ | 10, _ | 11, _ => rfl
  | k + 12, h => exact absurd h (by omega)

set_option maxRecDepth 100000 in
set_option maxHeartbeats 8000000 in
theorem rmarkedL_any (w : World) : Calls Tryd.prog 59 #[] w fun e w' => e = .returned (.slice (some ⟨w.heap.size, 0, none⟩) 12 12) ∧ Below w.heap.size w w' ∧ ∀ m, m < 12 → w'.cell? ⟨w.heap.size, m, none⟩ = some (.string ⟨(markWords.getD (m + 0) []).toArray⟩) := by
  have HC := Lib.hid fun m hm => rmarkedL_cell w 9 m hm
  go_enter Tryd.func59, Tryd.ntmps59
  go_wp2
  go_ret
  exact ⟨rfl, below_alloc _ _, HC.out⟩

def rplainLBlock : Array Value := #[.string ⟨#[80, 105]⟩, .string ⟨#[76, 97, 109]⟩, .string ⟨#[65, 112, 112]⟩, .string ⟨#[83, 105, 103]⟩, .string ⟨#[80, 97, 105, 114]⟩, .string ⟨#[70, 115, 116]⟩, .string ⟨#[83, 110, 100]⟩, .string ⟨#[69, 113]⟩, .string ⟨#[82, 101, 102, 108]⟩, .string ⟨#[74]⟩, .string ⟨#[117, 115, 101]⟩]
theorem rplainL_cell (w : World) (t : TypeId) (m : Nat) (h : m < 11) : (w.alloc (.cells rplainLBlock t)).cell? ⟨w.heap.size, m, none⟩ = some (.string ⟨(markWords.getD (m + 12) []).toArray⟩) := by
  have e : (w.alloc (.cells rplainLBlock t)).cell? ⟨w.heap.size, m, none⟩ = rplainLBlock[m]? := by simp [go_sem]
  rw [e]
  match m, h with
  | 0, _ | 1, _ | 2, _ | 3, _ | 4, _ | 5, _ | 6, _ | 7, _ | 8, _ | 9, _ | 10, _ => rfl
  | k + 11, h => exact absurd h (by omega)

set_option maxRecDepth 100000 in
set_option maxHeartbeats 8000000 in
theorem rplainL_any (w : World) : Calls Tryd.prog 60 #[] w fun e w' => e = .returned (.slice (some ⟨w.heap.size, 0, none⟩) 11 11) ∧ Below w.heap.size w w' ∧ ∀ m, m < 11 → w'.cell? ⟨w.heap.size, m, none⟩ = some (.string ⟨(markWords.getD (m + 12) []).toArray⟩) := by
  have HC := Lib.hid fun m hm => rplainL_cell w 9 m hm
  go_enter Tryd.func60, Tryd.ntmps60
  go_wp2
  go_ret
  exact ⟨rfl, below_alloc _ _, HC.out⟩
def RWriteC (N : Nat) : Prop := ∀ (k i j n : Int) (ks : List TT) (v : Value) (m : Nat) (want : Int) (w : World), SizeOf.sizeOf (TT.node k i j n ks) < N → RepT w ks v → In4 k i j n → rightT (.node k i j n ks) want = true → m + 2 * sizeT (.node k i j n ks) ≤ 1099511627776 → (writeT (.node k i j n ks) m).length ≤ 70368744177664 →
  Calls Tryd.prog 37 #[termV k i j n v, .int .i64 m] w fun e w' => e = .returned (.string ⟨(writeT (.node k i j n ks) m).toArray⟩) ∧ Below w.heap.size w w'
set_option maxRecDepth 100000 in
set_option maxHeartbeats 8000000 in
theorem rwrite_step (N : Nat) (ih : RWriteC N) : RWriteC (N + 1) := by
  intro k i j n ks v m want w hN hrep h4 hright hsz hlen
  obtain ⟨r1, r2, r3⟩ := rightT_parts hright
  obtain ⟨hk1, hk23⟩ := kidsK_in r1
  obtain ⟨hkl, a, c, rfl⟩ := hrep.form
  unfold maxLen at hkl
  have HR := Lib.hid (And.intro hrep (And.intro h4 r3))
  clear hrep h4 hright r1 r3
  unfold termV
  by_cases hk : k = 2
  · subst hk
    have HV : Hid (writeT (.node 2 i j n ks) m = nameL (m - 1 - i)) := Lib.hid (by simp [writeT])
    have hi : 0 ≤ i ∧ i ≤ 2147483647 := by
      rw [show numbersB 2 i j n = (decide (0 ≤ i) && decide (i ≤ 2147483647) && j == 0 && n == 0) from rfl] at r2
      simp only [Bool.and_eq_true, decide_eq_true_eq] at r2
      omega
    obtain ⟨hi1, hi2⟩ := hi
    simp only [sizeT] at hsz
    have HI : Hid (In64 (m - 1 - i)) := Lib.hid ⟨by omega, by omega⟩
    have hl : ¬ (9223372036854775807 < 1 + (Lib.itoa (m - 1 - i)).length) := by have := itoa_le HI.out; omega
    have E : Hid ((ByteArray.mk #[118]) ++ (ByteArray.mk (Lib.itoa (m - 1 - i)).toArray) = ⟨(nameL (m - 1 - i)).toArray⟩) := Lib.hid (str_append [118] (Lib.itoa (m - 1 - i)))
    clear r2 hk1 hk23 hlen
    go_enter Tryd.func37, Tryd.ntmps37
    go_wp2_with fail
    refine (refput_any _ _ HI.out.1 HI.out.2).mono ?_
    rintro e w1 ⟨rfl, hb1⟩
    have HB1 : Hid (Below w.heap.size w w1) := Lib.hid ((below_alloc _ _).trans (hb1.mono (by simp)))
    clear hb1
    go_wp2
    go_ret
    exact ⟨by rw [HV.out, ← E.out]; rfl, HB1.out⟩
  have HV := Lib.hid (writeT_open (i := i) (j := j) (n := n) (m := m) (ks := ks) hk)
  have hk2 : (k == 2) = false := by simp [hk]
  have hlen2 : (1 + (wordF k n).length) + (pc1 k i).length + (pc2 k j).length + (pc3 k m).length + (writeTs k m 0 ks).length + 1 ≤ 70368744177664 := by
    rw [HV.out] at hlen; simp at hlen; omega
  have HNI := Lib.hid (numbers_in hk1 hk23 r2)
  have HK0 := Lib.hid (And.intro hk1 (And.intro hk23 hk))
  have hwk : (wordK k).length ≤ 32 := by have := wordF_le k n; simp [wordF] at this; omega
  have hil := itoa_le HR.out.2.1.2.1
  have hjl := itoa_le HR.out.2.1.2.2.1
  have hsl := symK_le n
  clear r2 hlen hk hk1 hk23
  simp only [sizeT] at hsz
  have HM : Hid (In64 (m : Int)) := Lib.hid ⟨by omega, by omega⟩
  have hml := itoa_le HM.out
  have HB0 : Hid (Below (w.heap.size + 1) (w.alloc (.cells #[.int .i64 k, .int .i64 i, .int .i64 j, .int .i64 n, .slice a ks.length c] 24)) (w.alloc (.cells #[.int .i64 k, .int .i64 i, .int .i64 j, .int .i64 n, .slice a ks.length c] 24))) := Lib.hid (Below.refl _ _)
  go_enter Tryd.func37, Tryd.ntmps37
  go_upto_if 19 with fail
  obtain ⟨wa, hwa⟩ : ∃ wa, (w.alloc (.cells #[.int .i64 k, .int .i64 i, .int .i64 j, .int .i64 n, .slice a ks.length c] 24)) = wa := ⟨_, rfl⟩
  have HBA : Hid (Below (w.heap.size + 1) (w.alloc (.cells #[.int .i64 k, .int .i64 i, .int .i64 j, .int .i64 n, .slice a ks.length c] 24)) wa) := Lib.hid (by rw [← hwa]; exact Below.refl _ _)
  rw [hwa]
  clear hwa HB0
  have hsza : w.heap.size + 1 ≤ wa.heap.size := by simpa using HBA.out.size
  have c0 : wa.cell? ⟨w.heap.size, 0, none⟩ = some (.int .i64 k) := by rw [box_cell HBA.out 0 (by simp)]; rfl
  have c1 : wa.cell? ⟨w.heap.size, 1, none⟩ = some (.int .i64 i) := by rw [box_cell HBA.out 1 (by simp)]; rfl
  have c2 : wa.cell? ⟨w.heap.size, 2, none⟩ = some (.int .i64 j) := by rw [box_cell HBA.out 2 (by simp)]; rfl
  have c3 : wa.cell? ⟨w.heap.size, 3, none⟩ = some (.int .i64 n) := by rw [box_cell HBA.out 3 (by simp)]; rfl
  have c4 : wa.cell? ⟨w.heap.size, 4, none⟩ = some (.slice a ks.length c) := by rw [box_cell HBA.out 4 (by simp)]; rfl
  go_cut [5] (fun s5 wx => s5 = .string ⟨(40 :: wordK k).toArray⟩ ∧ Below (w.heap.size + 1) (w.alloc (.cells #[.int .i64 k, .int .i64 i, .int .i64 j, .int .i64 n, .slice a ks.length c] 24)) wx)
  case first =>
    have E40 : Hid ((ByteArray.mk #[40]) ++ (ByteArray.mk (wordK k).toArray) = ⟨(40 :: wordK k).toArray⟩) := Lib.hid (str_append [40] (wordK k))
    by_cases h12 : k ≤ 12
    · obtain ⟨x, hx, ex⟩ : ∃ x : Nat, x < 12 ∧ k - 1 = (x : Int) := ⟨(k - 1).toNat, by have := HK0.out; omega, by have := HK0.out; omega⟩
      have HWK : Hid (markWords.getD (x + 0) [] = wordK k) := Lib.hid (by unfold wordK; rw [ex]; rfl)
      have k1 : 1 ≤ k := HK0.out.1
      have x1 : ¬ (12 ≤ x) := by omega
      have x2 : ¬ (12 ≤ (x : Int)) := by omega
      have x3 : (x : Int) < 12 := by omega
      have x4 : IntKind.i64.wrap (x : Int) = (x : Int) := by rw [IntKind.wrap_i64]; omega
      have g1 : decide (k ≤ 12) = true := by simp [h12]
      go_wp2_with fail
      go_region_with (go_at_call 59; refine (rmarkedL_any _).mono ?_; rintro e w1 ⟨rfl, hb1, hc1⟩; have hcell : w1.cell? ⟨wa.heap.size, x, none⟩ = some (.string ⟨(wordK k).toArray⟩) := by { rw [← HWK.out]; exact hc1 x hx }; have d0 : w1.cell? ⟨w.heap.size, 0, none⟩ = some (.int .i64 k) := (hb1.cell (p := ⟨w.heap.size, 0, none⟩) (by have := HBA.out.size; simp at this; exact this)).trans c0; have HB1 : Hid (Below wa.heap.size wa w1) := Lib.hid ((Below.refl _ _).drew.trans hb1); clear hb1 hc1)
      all_goals (go_wp2_with fail; go_meet; exact ⟨congrArg Value.string E40.out, HBA.out.trans (HB1.out.mono hsza)⟩)
    · obtain ⟨x, hx, ex⟩ : ∃ x : Nat, x < 11 ∧ k - 13 = (x : Int) := ⟨(k - 13).toNat, by have := HK0.out; omega, by have := HK0.out; omega⟩
      have HWK : Hid (markWords.getD (x + 12) [] = wordK k) := Lib.hid (by unfold wordK; rw [show (k - 1).toNat = x + 12 by omega])
      have k1 : 1 ≤ k := HK0.out.1
      have k2 : k ≤ 23 := HK0.out.2.1
      have x1 : ¬ (11 ≤ x) := by omega
      have x3 : (x : Int) < 11 := by omega
      have x4 : IntKind.i64.wrap (x : Int) = (x : Int) := by rw [IntKind.wrap_i64]; omega
      have g1 : decide (k ≤ 12) = false := by simp; omega
      go_wp2_with fail
      go_region_with (go_at_call 60; refine (rplainL_any _).mono ?_; rintro e w1 ⟨rfl, hb1, hc1⟩; have hcell : w1.cell? ⟨wa.heap.size, x, none⟩ = some (.string ⟨(wordK k).toArray⟩) := by { rw [← HWK.out]; exact hc1 x hx }; have d0 : w1.cell? ⟨w.heap.size, 0, none⟩ = some (.int .i64 k) := (hb1.cell (p := ⟨w.heap.size, 0, none⟩) (by have := HBA.out.size; simp at this; exact this)).trans c0; have HB1 : Hid (Below wa.heap.size wa w1) := Lib.hid ((Below.refl _ _).drew.trans hb1); clear hb1 hc1)
      all_goals (go_wp2_with fail; go_meet; exact ⟨congrArg Value.string E40.out, HBA.out.trans (HB1.out.mono hsza)⟩)
  case rest =>
  clear c0 c1 c2 c3 c4
  obtain ⟨rfl, hbw⟩ := hcut
  have HBW := Lib.hid hbw
  have hsz1 : w.heap.size + 1 ≤ wc.heap.size := by simpa using hbw.size
  clear hbw HBA
  have c0 : wc.cell? ⟨w.heap.size, 0, none⟩ = some (.int .i64 k) := by rw [box_cell HBW.out 0 (by simp)]; rfl
  have c1 : wc.cell? ⟨w.heap.size, 1, none⟩ = some (.int .i64 i) := by rw [box_cell HBW.out 1 (by simp)]; rfl
  have c2 : wc.cell? ⟨w.heap.size, 2, none⟩ = some (.int .i64 j) := by rw [box_cell HBW.out 2 (by simp)]; rfl
  have c3 : wc.cell? ⟨w.heap.size, 3, none⟩ = some (.int .i64 n) := by rw [box_cell HBW.out 3 (by simp)]; rfl
  have c4 : wc.cell? ⟨w.heap.size, 4, none⟩ = some (.slice a ks.length c) := by rw [box_cell HBW.out 4 (by simp)]; rfl
  go_upto_block 0 with fail
  go_cut [5] (fun s5 wx => s5 = .string ⟨((40 :: wordF k n) ++ pc1 k i ++ pc2 k j).toArray⟩ ∧ Below (w.heap.size + 1) (w.alloc (.cells #[.int .i64 k, .int .i64 i, .int .i64 j, .int .i64 n, .slice a ks.length c] 24)) wx)
  case first =>
    have hq : k = 23 ∨ (k = 3 ∨ k = 4 ∨ k = 5 ∨ k = 6 ∨ k = 7 ∨ k = 8 ∨ k = 9) ∨ (k = 1 ∨ k = 10 ∨ k = 11 ∨ k = 12) ∨ (13 ≤ k ∧ k ≤ 22) := by have := HK0.out; omega
    rcases hq with h23 | h39 | h1 | h13
    · have HE : Hid ((40 :: wordF k n) ++ pc1 k i ++ pc2 k j = (40 :: wordK k) ++ [32] ++ symK n ++ [32] ++ Lib.itoa i ++ [32] ++ Lib.itoa j) := Lib.hid (by subst h23; simp [wordF, pc1, pc2, levelsK])
      have E : Hid ((ByteArray.mk (40 :: wordK k).toArray) ++ (ByteArray.mk #[32]) ++ (ByteArray.mk (symK n).toArray) ++ (ByteArray.mk #[32]) ++ (ByteArray.mk (Lib.itoa i).toArray) ++ (ByteArray.mk #[32]) ++ (ByteArray.mk (Lib.itoa j).toArray) = ⟨((40 :: wordF k n) ++ pc1 k i ++ pc2 k j).toArray⟩) := Lib.hid (by rw [HE.out]; apply ByteArray.ext; simp)
      have g23 : (k == 23) = true := by simp [h23]
      clear h23
      go_wp2_with fail
      obtain ⟨σ, f, hnem, hf, hcov⟩ := fam wc.heap.size wc (Nat.le_refl _)
      have hc0 := fun s => ((hf s).1.cell (p := ⟨w.heap.size, 0, none⟩) (by show w.heap.size < _; omega)).trans c0
      have hc1 := fun s => ((hf s).1.cell (p := ⟨w.heap.size, 1, none⟩) (by show w.heap.size < _; omega)).trans c1
      have hc2 := fun s => ((hf s).1.cell (p := ⟨w.heap.size, 2, none⟩) (by show w.heap.size < _; omega)).trans c2
      have hc3 := fun s => ((hf s).1.cell (p := ⟨w.heap.size, 3, none⟩) (by show w.heap.size < _; omega)).trans c3
      have hc4 := fun s => ((hf s).1.cell (p := ⟨w.heap.size, 4, none⟩) (by show w.heap.size < _; omega)).trans c4
      have HF := Lib.hid hf
      have HCOV := Lib.hid hcov
      clear hf hcov
      refine wp_region_fam_lit f (by kernel_rfl) (by kernel_rfl) (HCOV.out _ (Below.refl _ _).drew) ?_
      repeat (go_big_quiet_step ((first
        | (go_at_call 29; exact calls_fam HF.out HCOV.out (rName_any n _ HR.out.2.1.2.2.2))
        | (go_at_call_of 43 (Value.int IntKind.i64 i); exact calls_fam HF.out HCOV.out (refput_any i _ HR.out.2.1.2.1.1 HR.out.2.1.2.1.2))
        | (go_at_call_of 43 (Value.int IntKind.i64 j); exact calls_fam HF.out HCOV.out (refput_any j _ HR.out.2.1.2.2.1.1 HR.out.2.1.2.2.1.2)))))
      refine wpQuiet_nil ?_
      rintro _ ⟨s, rfl⟩
      have HFS := Lib.hid (HF.out s).1
      clear HF HCOV hc0 hc1 hc2 hc3 hc4
      go_wp2_with fail
      go_meet
      case rel => exact ⟨congrArg Value.string E.out, HBW.out.trans (HFS.out.mono hsz1)⟩
    · have HE : Hid ((40 :: wordF k n) ++ pc1 k i ++ pc2 k j = (40 :: wordK k) ++ [32] ++ Lib.itoa i ++ [32] ++ Lib.itoa j) := Lib.hid (by rcases h39 with rfl | rfl | rfl | rfl | rfl | rfl | rfl <;> simp [wordF, pc1, pc2, levelsK])
      have E : Hid ((ByteArray.mk (40 :: wordK k).toArray) ++ (ByteArray.mk #[32]) ++ (ByteArray.mk (Lib.itoa i).toArray) ++ (ByteArray.mk #[32]) ++ (ByteArray.mk (Lib.itoa j).toArray) = ⟨((40 :: wordF k n) ++ pc1 k i ++ pc2 k j).toArray⟩) := Lib.hid (by rw [HE.out]; apply ByteArray.ext; simp)
      rcases h39 with rfl | rfl | rfl | rfl | rfl | rfl | rfl
      all_goals
        go_wp2_with fail
        obtain ⟨σ, f, hnem, hf, hcov⟩ := fam wc.heap.size wc (Nat.le_refl _)
        have hc0 := fun s => ((hf s).1.cell (p := ⟨w.heap.size, 0, none⟩) (by show w.heap.size < _; omega)).trans c0
        have hc1 := fun s => ((hf s).1.cell (p := ⟨w.heap.size, 1, none⟩) (by show w.heap.size < _; omega)).trans c1
        have hc2 := fun s => ((hf s).1.cell (p := ⟨w.heap.size, 2, none⟩) (by show w.heap.size < _; omega)).trans c2
        have hc3 := fun s => ((hf s).1.cell (p := ⟨w.heap.size, 3, none⟩) (by show w.heap.size < _; omega)).trans c3
        have hc4 := fun s => ((hf s).1.cell (p := ⟨w.heap.size, 4, none⟩) (by show w.heap.size < _; omega)).trans c4
        have HF := Lib.hid hf
        have HCOV := Lib.hid hcov
        clear hf hcov
        refine wp_region_fam_lit f (by kernel_rfl) (by kernel_rfl) (HCOV.out _ (Below.refl _ _).drew) ?_
        repeat (go_big_quiet_step ((first
          | (go_at_call_of 43 (Value.int IntKind.i64 i); exact calls_fam HF.out HCOV.out (refput_any i _ HR.out.2.1.2.1.1 HR.out.2.1.2.1.2))
          | (go_at_call_of 43 (Value.int IntKind.i64 j); exact calls_fam HF.out HCOV.out (refput_any j _ HR.out.2.1.2.2.1.1 HR.out.2.1.2.2.1.2)))))
        refine wpQuiet_nil ?_
        rintro _ ⟨s, rfl⟩
        have HFS := Lib.hid (HF.out s).1
        clear HF HCOV hc0 hc1 hc2 hc3 hc4
        go_wp2_with fail
        go_meet
        exact ⟨congrArg Value.string E.out, HBW.out.trans (HFS.out.mono hsz1)⟩
    · have HE : Hid ((40 :: wordF k n) ++ pc1 k i ++ pc2 k j = (40 :: wordK k) ++ [32] ++ Lib.itoa i) := Lib.hid (by rcases h1 with rfl | rfl | rfl | rfl <;> simp [wordF, pc1, pc2, levelsK])
      have E : Hid ((ByteArray.mk (40 :: wordK k).toArray) ++ (ByteArray.mk #[32]) ++ (ByteArray.mk (Lib.itoa i).toArray) = ⟨((40 :: wordF k n) ++ pc1 k i ++ pc2 k j).toArray⟩) := Lib.hid (by rw [HE.out]; apply ByteArray.ext; simp)
      rcases h1 with rfl | rfl | rfl | rfl
      all_goals
        go_wp2_with fail
        refine (refput_any i _ HR.out.2.1.2.1.1 HR.out.2.1.2.1.2).mono ?_
        rintro e w3 ⟨rfl, hb3⟩
        have HFS := Lib.hid hb3
        clear hb3
        go_wp2_with fail
        go_meet
        exact ⟨congrArg Value.string E.out, HBW.out.trans (HFS.out.mono hsz1)⟩
    · have HE : Hid ((40 :: wordF k n) ++ pc1 k i ++ pc2 k j = 40 :: wordK k) := Lib.hid (by
        have l0 : levelsK k = 0 := by unfold levelsK; rw [if_neg (by omega), if_neg (by omega)]
        have : k ≠ 23 := by omega
        simp [wordF, pc1, pc2, l0, this])
      have e1 : (k == 1) = false := by simp; omega
      have e3 : (k == 3) = false := by simp; omega
      have e4 : (k == 4) = false := by simp; omega
      have e5 : (k == 5) = false := by simp; omega
      have e6 : (k == 6) = false := by simp; omega
      have e7 : (k == 7) = false := by simp; omega
      have e8 : (k == 8) = false := by simp; omega
      have e9 : (k == 9) = false := by simp; omega
      have e10 : (k == 10) = false := by simp; omega
      have e11 : (k == 11) = false := by simp; omega
      have e12 : (k == 12) = false := by simp; omega
      have e23 : (k == 23) = false := by simp; omega
      clear h13
      go_wp2_with fail
      go_meet
      case rel => exact ⟨by rw [HE.out], HBW.out⟩
  case rest =>
  clear c0 c1 c2 c3 c4
  obtain ⟨rfl, hbw⟩ := hcut
  have HBX := Lib.hid hbw
  clear hbw HBW hsz1
  have c0 : wc.cell? ⟨w.heap.size, 0, none⟩ = some (.int .i64 k) := by rw [box_cell HBX.out 0 (by simp)]; rfl
  have c1 : wc.cell? ⟨w.heap.size, 1, none⟩ = some (.int .i64 i) := by rw [box_cell HBX.out 1 (by simp)]; rfl
  have c2 : wc.cell? ⟨w.heap.size, 2, none⟩ = some (.int .i64 j) := by rw [box_cell HBX.out 2 (by simp)]; rfl
  have c3 : wc.cell? ⟨w.heap.size, 3, none⟩ = some (.int .i64 n) := by rw [box_cell HBX.out 3 (by simp)]; rfl
  have c4 : wc.cell? ⟨w.heap.size, 4, none⟩ = some (.slice a ks.length c) := by rw [box_cell HBX.out 4 (by simp)]; rfl
  have HHL0 : Hid (((40 :: wordF k n) ++ pc1 k i ++ pc2 k j).length = (1 + (wordF k n).length) + (pc1 k i).length + (pc2 k j).length) := Lib.hid (by simp; omega)
  generalize (40 :: wordF k n) ++ pc1 k i ++ pc2 k j = H0 at HHL0 HV
  have hh0 := HHL0.out
  go_wp2_with fail
  refine (rbinds_any k 1 _).mono ?_
  rintro e w3 ⟨rfl, rfl⟩
  go_upto_if 89 with fail
  go_cut [5] (fun s5 wx => s5 = .string ⟨(H0 ++ pc3 k m).toArray⟩ ∧ Below (w.heap.size + 1) (w.alloc (.cells #[.int .i64 k, .int .i64 i, .int .i64 j, .int .i64 n, .slice a ks.length c] 24)) wx)
  case first =>
    by_cases hl : bindsK k 1 = 1
    · have HE : Hid (H0 ++ pc3 k m = H0 ++ [32, 118] ++ Lib.itoa m) := Lib.hid (by simp [pc3, hl, nameL])
      have E : Hid ((ByteArray.mk H0.toArray) ++ (ByteArray.mk #[32, 118]) ++ (ByteArray.mk (Lib.itoa m).toArray) = ⟨(H0 ++ pc3 k m).toArray⟩) := Lib.hid (by rw [HE.out]; apply ByteArray.ext; simp)
      have hl2 : (bindsK k 1 == 1) = true := by simp [hl]
      clear hl
      go_wp2_with fail
      refine (refput_any m _ HM.out.1 HM.out.2).mono ?_
      rintro e w4 ⟨rfl, hb4⟩
      have HB4 := Lib.hid (HBX.out.trans (hb4.mono (by simpa using HBX.out.size)))
      clear hb4
      go_wp2_with fail
      go_meet
      case rel => exact ⟨congrArg Value.string E.out, HB4.out⟩
    · have HE : Hid (H0 ++ pc3 k m = H0) := Lib.hid (by simp [pc3, hl])
      have hl2 : (bindsK k 1 == 1) = false := by simp [hl]
      clear hl
      go_wp2_with fail
      go_meet
      case rel => exact ⟨by rw [HE.out], HBX.out⟩
  case rest =>
  clear c0 c1 c2 c3 c4
  obtain ⟨rfl, hbw⟩ := hcut
  have HBY := Lib.hid hbw
  clear hbw HBX hh0
  have HHL : Hid ((H0 ++ pc3 k m).length = (1 + (wordF k n).length) + (pc1 k i).length + (pc2 k j).length + (pc3 k m).length) := Lib.hid (by rw [List.length_append, HHL0.out])
  generalize H0 ++ pc3 k m = HD at HHL HV
  have hhl := HHL.out
  go_wp2_with fail
  go_loopw [5, 6] (fun sx ix wr => ∃ (q : Nat), ix = .int .i64 q ∧ sx = .string ⟨(HD ++ writeTs k m 0 (ks.take q)).toArray⟩ ∧ q ≤ ks.length ∧ Below (w.heap.size + 1) (w.alloc (.cells #[.int .i64 k, .int .i64 i, .int .i64 j, .int .i64 n, .slice a ks.length c] 24)) wr) (fun _ x _ => ks.length - (intOf x).toNat)
  case atStart => exact ⟨0, rfl, by simp [writeTs], by omega, HBY.out⟩
  case round =>
    obtain ⟨q, rfl, rfl, hq, hbel⟩ := hrel
    have hB := below_of_box hbel
    have hsz2 : w.heap.size + 1 ≤ wr.heap.size := by simpa using hbel.size
    have c0 : wr.cell? ⟨w.heap.size, 0, none⟩ = some (.int .i64 k) := by rw [box_cell hbel 0 (by simp)]; rfl
    have c1 : wr.cell? ⟨w.heap.size, 1, none⟩ = some (.int .i64 i) := by rw [box_cell hbel 1 (by simp)]; rfl
    have c2 : wr.cell? ⟨w.heap.size, 2, none⟩ = some (.int .i64 j) := by rw [box_cell hbel 2 (by simp)]; rfl
    have c3 : wr.cell? ⟨w.heap.size, 3, none⟩ = some (.int .i64 n) := by rw [box_cell hbel 3 (by simp)]; rfl
    have c4 : wr.cell? ⟨w.heap.size, 4, none⟩ = some (.slice a ks.length c) := by rw [box_cell hbel 4 (by simp)]; rfl
    by_cases hlt : q < ks.length
    · obtain ⟨b1, o1, k1, i1, j1, n1, l1, v1, rfl, _, hbs1, hj1, e0, e1, e2, e3, e4, hr1, hk1⟩ := (HR.out.1.kept hB).at q hlt
      obtain ⟨hl1, a1, cc1, rfl⟩ := hk1.form
      clear hl1
      have hlt1 := TT.lt hj1 k i j n
      have hs1 := sizeTs_at hj1
      have hrt := rightTs_at hj1 HR.out.2.2
      have htk := writeTs_take (k := k) (m := m) hj1
      have hle := writeTs_take_le k m ks (q + 1)
      rw [htk] at hle
      simp only [List.length_append, List.length_cons] at hle
      have hb := bindsK_in k q
      obtain ⟨bi, hbi⟩ : ∃ bi : Nat, bindsK k q = (bi : Int) := ⟨(bindsK k q).toNat, by omega⟩
      have hbi2 : bi ≤ 2 := by omega
      rw [hbi] at htk hle
      have HBC : Hid (∀ w', Calls Tryd.prog 61 #[.int .i64 k, .int .i64 q] w' fun e w'' => e = .returned (.int .i64 bi) ∧ w' = w'') := Lib.hid (fun w' => by rw [← hbi]; exact rbinds_any _ _ _)
      have HK := Lib.hid (And.intro hk1 (And.intro hr1 hrt))
      have HTK := Lib.hid htk
      have HB := Lib.hid (And.intro hbel hB)
      have HE : Hid (∀ w', Below wr.heap.size wr w' → w'.cell? ⟨b1, o1 + q * 5, none⟩ = some (.int .i64 k1) ∧ w'.cell? ⟨b1, o1 + q * 5 + 1, none⟩ = some (.int .i64 i1) ∧ w'.cell? ⟨b1, o1 + q * 5 + 2, none⟩ = some (.int .i64 j1) ∧ w'.cell? ⟨b1, o1 + q * 5 + 3, none⟩ = some (.int .i64 n1) ∧ w'.cell? ⟨b1, o1 + q * 5 + 4, none⟩ = some (.slice a1 l1.length cc1)) := Lib.hid (fun w' h => ⟨(h.cell (p := ⟨b1, _, none⟩) hbs1).trans e0, (h.cell (p := ⟨b1, _, none⟩) hbs1).trans e1, (h.cell (p := ⟨b1, _, none⟩) hbs1).trans e2, (h.cell (p := ⟨b1, _, none⟩) hbs1).trans e3, (h.cell (p := ⟨b1, _, none⟩) hbs1).trans e4⟩)
      have hpj : (k == 22) = false ∨ (k == 22) = true ∧ (((q : Int) == 2) = false ∨ ((q : Int) == 2) = true) := by
        by_cases h1 : k = 22
        · refine .inr ⟨by simp [h1], ?_⟩
          by_cases h2 : (q : Int) = 2
          · exact .inr (by simp [h2])
          · exact .inl (by simp [h2])
        · exact .inl (by simp [h1])
      have HPJ := Lib.hid hpj
      clear hk1 hr1 hrt hj1 htk hbel hB hb hbi e0 e1 e2 e3 e4 hpj
      go_upto_region 28 with fail
      go_cut [108] (fun s8 wx => s8 = .bool (decide (k = 22 ∧ q = 2)) ∧ wr = wx)
      case first =>
        rcases HPJ.out with p1 | ⟨p1, p2 | p2⟩
        · have HD8 : Hid (decide (k = 22 ∧ q = 2) = false) := Lib.hid (by simp at p1 ⊢; omega)
          go_wp2_with fail
          go_meet
          case rel => exact ⟨by rw [HD8.out], rfl⟩
        · have HD8 : Hid (decide (k = 22 ∧ q = 2) = false) := Lib.hid (by simp at p1 p2 ⊢; omega)
          go_wp2_with fail
          go_meet
          case rel => exact ⟨by rw [HD8.out], rfl⟩
        · have HD8 : Hid (decide (k = 22 ∧ q = 2) = true) := Lib.hid (by simp at p1 p2 ⊢; omega)
          go_wp2_with fail
          go_meet
          case rel => exact ⟨by rw [HD8.out], rfl⟩
      case rest =>
      obtain ⟨rfl, rfl⟩ := hcut
      go_upto_if 108 with fail
      go_cut [5] (fun s5 wx => s5 = .string ⟨(HD ++ writeTs k m 0 (ks.take q) ++ pcJ k m q).toArray⟩ ∧ Below wr.heap.size wr wx)
      case first =>
        by_cases hpq : k = 22 ∧ q = 2
        · have HP : Hid (pcJ k m q = 32 :: (nameL m ++ 32 :: nameL (m + 1))) := Lib.hid (by unfold pcJ; rw [if_pos hpq])
          have h8 : decide (k = 22 ∧ q = 2) = true := by simp [hpq]
          have HM1 : Hid (In64 ((m : Int) + 1)) := Lib.hid ⟨by omega, by omega⟩
          have hml1 := itoa_le HM1.out
          have EJ : Hid ((ByteArray.mk (HD ++ writeTs k m 0 (ks.take q)).toArray) ++ (ByteArray.mk #[32, 118]) ++ (ByteArray.mk (Lib.itoa m).toArray) ++ (ByteArray.mk #[32, 118]) ++ (ByteArray.mk (Lib.itoa (m + 1)).toArray) = ⟨(HD ++ writeTs k m 0 (ks.take q) ++ pcJ k m q).toArray⟩) := Lib.hid (by rw [HP.out]; apply ByteArray.ext; simp [nameL])
          generalize decide (k = 22 ∧ q = 2) = b8 at h8
          clear hpq
          subst h8
          go_wp2_with fail
          refine (refput_any m _ HM.out.1 HM.out.2).mono ?_
          rintro e w4 ⟨rfl, hb4⟩
          have HB4 := Lib.hid hb4
          clear hb4
          go_wp2_with fail
          refine (refput_any (m + 1) _ HM1.out.1 HM1.out.2).mono ?_
          rintro e w5 ⟨rfl, hb5⟩
          have HB5 := Lib.hid (HB4.out.trans (hb5.mono HB4.out.size))
          clear hb5
          go_wp2_with fail
          go_meet
          case rel => exact ⟨congrArg Value.string EJ.out, HB5.out⟩
        · have HP : Hid (pcJ k m q = []) := Lib.hid (by unfold pcJ; rw [if_neg hpq])
          have h8 : decide (k = 22 ∧ q = 2) = false := by simp; omega
          generalize decide (k = 22 ∧ q = 2) = b8 at h8
          clear hpq
          subst h8
          go_wp2_with fail
          go_meet
          case rel => exact ⟨by rw [HP.out, List.append_nil], Below.refl _ _⟩
      case rest =>
      obtain ⟨rfl, hbc⟩ := hcut
      have HBC2 := Lib.hid hbc
      have hszc := hbc.size
      have HLJ : Hid ((HD ++ writeTs k m 0 (ks.take q) ++ pcJ k m q).length = HD.length + (writeTs k m 0 (ks.take q)).length + (pcJ k m q).length) := Lib.hid (by simp; omega)
      have E1 := Lib.hid (str_append (HD ++ writeTs k m 0 (ks.take q) ++ pcJ k m q) [32])
      have E2 := Lib.hid (str_append (HD ++ writeTs k m 0 (ks.take q) ++ pcJ k m q ++ [32]) (writeT (.node k1 i1 j1 n1 l1) (m + bi)))
      have HTK2 : Hid (HD ++ writeTs k m 0 (ks.take q) ++ pcJ k m q ++ [32] ++ writeT (.node k1 i1 j1 n1 l1) (m + bi) = HD ++ writeTs k m 0 (ks.take (q + 1))) := Lib.hid (by rw [HTK.out]; simp)
      generalize HD ++ writeTs k m 0 (ks.take q) ++ pcJ k m q = HJ at HLJ E1 E2 HTK2
      have hlj := HLJ.out
      have hwl : (writeT (.node k1 i1 j1 n1 l1) (m + bi)).length ≤ 70368744177664 := by omega
      have hjl2 : HJ.length + 1 + (writeT (.node k1 i1 j1 n1 l1) (m + bi)).length ≤ 70368744177664 := by omega
      have hnl1 : ¬ (9223372036854775807 < HJ.length + 1) := by omega
      have hnl2 : ¬ (9223372036854775807 < HJ.length + 1 + (writeT (.node k1 i1 j1 n1 l1) (m + bi)).length) := by omega
      have HCALL : Hid (∀ w', Below wc.heap.size wc w' → Calls Tryd.prog 37 #[.agg #[.int .i64 k1, .int .i64 i1, .int .i64 j1, .int .i64 n1, .slice a1 l1.length cc1], .int .i64 ((m : Int) + bi)] w' fun e w'' => e = .returned (.string ⟨(writeT (.node k1 i1 j1 n1 l1) (m + bi)).toArray⟩) ∧ Below w'.heap.size w' w'') := Lib.hid (fun w' hw' => by
        have := ih k1 i1 j1 n1 l1 (.slice a1 l1.length cc1) (m + bi) _ w' (by omega) (HK.out.1.kept (HBC2.out.trans (hw'.mono hszc))) HK.out.2.1 HK.out.2.2 (by omega) (by push_cast; exact hwl)
        push_cast at this
        exact this)
      obtain ⟨σ, f, hnem, hf, hcov⟩ := fam wc.heap.size wc (Nat.le_refl _)
      have hfw : ∀ s, Below wr.heap.size wr (f s) := fun s => HBC2.out.trans ((hf s).1.mono hszc)
      have hc0 := fun s => ((hfw s).cell (p := ⟨w.heap.size, 0, none⟩) (by show w.heap.size < _; omega)).trans c0
      have hc4 := fun s => ((hfw s).cell (p := ⟨w.heap.size, 4, none⟩) (by show w.heap.size < _; omega)).trans c4
      have hd0 := fun s => (HE.out _ (hfw s)).1
      have hd1 := fun s => (HE.out _ (hfw s)).2.1
      have hd2 := fun s => (HE.out _ (hfw s)).2.2.1
      have hd3 := fun s => (HE.out _ (hfw s)).2.2.2.1
      have hd4 := fun s => (HE.out _ (hfw s)).2.2.2.2
      have HF := Lib.hid hf
      have HCOV := Lib.hid hcov
      clear hf hcov hfw c0 c1 c2 c3 c4 hbc hle hlj hhl hwl hjl2
      go_upto_region 30 with fail
      refine wp_region_fam_lit f (by kernel_rfl) (by kernel_rfl) (HCOV.out _ (Below.refl _ _).drew) ?_
      repeat (go_big_quiet_step ((first
        | (go_at_call 61; exact calls_fam_same (HBC.out _))
        | (go_at_call 37; exact calls_fam HF.out HCOV.out (HCALL.out _ (HF.out _).1)))))
      refine wpQuiet_nil ?_
      rintro _ ⟨s, rfl⟩
      have HFS := Lib.hid (HBC2.out.trans ((HF.out s).1.mono hszc))
      clear HF HCOV hc0 hc4 hd0 hd1 hd2 hd3 hd4
      generalize f s = wf at HFS
      go_wp2
      go_roundw
      case rel => exact ⟨q + 1, by go_num, congrArg Value.string ((congrArg (· ++ _) E1.out).trans (E2.out.trans (by rw [HTK2.out]))), by omega, HB.out.1.trans (HFS.out.mono hsz2)⟩
      case measure => simp [intOf]; omega
    · have hjl : q = ks.length := by omega
      subst hjl
      rw [List.take_of_length_le (Nat.le_refl _)]
      have HB := Lib.hid hB
      have E1 := Lib.hid (str_append (HD ++ writeTs k m 0 ks) [41])
      clear hB hbel
      go_wp2
      go_ret
      exact ⟨by rw [HV.out]; exact congrArg (fun s => Ending.returned (.string s)) E1.out, HB.out⟩

theorem rwrite_all : ∀ N, RWriteC N
  | 0 => fun _ _ _ _ _ _ _ _ _ h => absurd h (Nat.not_lt_zero _)
  | N + 1 => rwrite_step N (rwrite_all N)
set_option maxRecDepth 100000 in
set_option maxHeartbeats 8000000 in
theorem rWriteW_any (k i j n : Int) (ks : List TT) (v : Value) (m : Int) (w : World) (hrep : RepT w ks v) (h4 : In4 k i j n) (hsz : sizeT (.node k i j n ks) ≤ 1000000) :
    Calls Tryd.prog 16 #[termV k i j n v, .int .i64 m] w fun e w' => e = .returned (.string ⟨(writeW (.node k i j n ks) m).toArray⟩) ∧ Below w.heap.size w w' := by
  obtain ⟨hlen, a, c, rfl⟩ := hrep.form
  clear hlen
  have HR := Lib.hid (And.intro hrep (And.intro h4 hsz))
  clear hrep h4 hsz
  unfold termV
  by_cases hm : 0 ≤ m ∧ m ≤ 1000000
  · obtain ⟨q, rfl⟩ := Int.eq_ofNat_of_zero_le hm.1
    have g1 : decide ((q : Int) < 0) = false := by simp
    have g2 : decide (1000000 < (q : Int)) = false := by simp; omega
    have hq : q ≤ 1000000 := by omega
    clear hm
    go_enter Tryd.func16, Tryd.ntmps16
    go_wp2_with fail
    refine (rright04_any k i j n ks _ _ (HR.out.1.kept (below_alloc _ _))).mono ?_
    rintro e w1 ⟨rfl, hb1⟩
    have HFS : Hid (Below (w.heap.size + 1) (w.alloc (.cells #[.int .i64 k, .int .i64 i, .int .i64 j, .int .i64 n, .slice a ks.length c] 24)) w1) := Lib.hid (by simpa using hb1)
    clear hb1
    have c0 : w1.cell? ⟨w.heap.size, 0, none⟩ = some (.int .i64 k) := by rw [box_cell HFS.out 0 (by simp)]; rfl
    have c1 : w1.cell? ⟨w.heap.size, 1, none⟩ = some (.int .i64 i) := by rw [box_cell HFS.out 1 (by simp)]; rfl
    have c2 : w1.cell? ⟨w.heap.size, 2, none⟩ = some (.int .i64 j) := by rw [box_cell HFS.out 2 (by simp)]; rfl
    have c3 : w1.cell? ⟨w.heap.size, 3, none⟩ = some (.int .i64 n) := by rw [box_cell HFS.out 3 (by simp)]; rfl
    have c4 : w1.cell? ⟨w.heap.size, 4, none⟩ = some (.slice a ks.length c) := by rw [box_cell HFS.out 4 (by simp)]; rfl
    cases hr : rightT (.node k i j n ks) 0
    · have HV : Hid (writeW (.node k i j n ks) q = []) := Lib.hid (by unfold writeW; rw [if_pos (.inr (.inr (.inl hr)))])
      clear hr
      go_wp2
      go_ret
      exact ⟨by rw [HV.out]; rfl, below_of_box HFS.out⟩
    have HQ := Lib.hid hr
    clear hr
    go_wp2_with fail
    refine (rFree04_any k i j n ks _ _ (HR.out.1.kept (below_of_box HFS.out))).mono ?_
    rintro e w2 ⟨rfl, hb2⟩
    have HFS2 : Hid (Below (w.heap.size + 1) (w.alloc (.cells #[.int .i64 k, .int .i64 i, .int .i64 j, .int .i64 n, .slice a ks.length c] 24)) w2) := Lib.hid (HFS.out.trans (hb2.mono (by simpa using HFS.out.size)))
    clear hb2 c0 c1 c2 c3 c4
    have c0 : w2.cell? ⟨w.heap.size, 0, none⟩ = some (.int .i64 k) := by rw [box_cell HFS2.out 0 (by simp)]; rfl
    have c1 : w2.cell? ⟨w.heap.size, 1, none⟩ = some (.int .i64 i) := by rw [box_cell HFS2.out 1 (by simp)]; rfl
    have c2 : w2.cell? ⟨w.heap.size, 2, none⟩ = some (.int .i64 j) := by rw [box_cell HFS2.out 2 (by simp)]; rfl
    have c3 : w2.cell? ⟨w.heap.size, 3, none⟩ = some (.int .i64 n) := by rw [box_cell HFS2.out 3 (by simp)]; rfl
    have c4 : w2.cell? ⟨w.heap.size, 4, none⟩ = some (.slice a ks.length c) := by rw [box_cell HFS2.out 4 (by simp)]; rfl
    have HLE : Hid ((writeT (.node k i j n ks) q).length ≤ 70368744177664) := Lib.hid (by
      have h1 := HR.out.2.2
      have := writeT_le (.node k i j n ks) q 0 (by omega) (by omega) HQ.out
      omega)
    have hfr : decide ((q : Int) < freeOf (.node k i j n ks)) = true ∧ writeW (.node k i j n ks) q = [] ∨ decide ((q : Int) < freeOf (.node k i j n ks)) = false ∧ writeW (.node k i j n ks) q = writeT (.node k i j n ks) q := by
      by_cases hf : (q : Int) < freeOf (.node k i j n ks)
      · exact .inl ⟨by simp [hf], by unfold writeW; rw [if_pos (.inr (.inr (.inr hf)))]⟩
      · exact .inr ⟨by simp [hf], writeW_in (by omega) (by omega) HQ.out hf⟩
    generalize freeOf (.node k i j n ks) = fr at hfr
    rcases hfr with ⟨g3, hv⟩ | ⟨g3, hv⟩
    · have HV := Lib.hid hv
      clear hv
      go_wp2
      go_ret
      exact ⟨by rw [HV.out]; rfl, below_of_box HFS2.out⟩
    · have HV := Lib.hid hv
      clear hv
      go_wp2_with fail
      refine (rwrite_all _ k i j n ks _ q 0 _ (Nat.lt_succ_self _) (HR.out.1.kept (below_of_box HFS2.out)) HR.out.2.1 HQ.out (by have := HR.out.2.2; omega) HLE.out).mono ?_
      rintro e w3 ⟨rfl, hb3⟩
      have HB3 := Lib.hid ((below_of_box HFS2.out).trans (hb3.mono (below_of_box HFS2.out).size))
      clear hb3
      go_wp2
      go_ret
      exact ⟨by rw [HV.out]; rfl, HB3.out⟩
  · have HV : Hid (writeW (.node k i j n ks) m = []) := Lib.hid (by unfold writeW; rw [if_pos (by omega)])
    have hq : decide (m < 0) = true ∨ decide (m < 0) = false ∧ decide (1000000 < m) = true := by
      by_cases h1 : m < 0
      · exact .inl (by simp [h1])
      · exact .inr ⟨by simp [h1], by simp; omega⟩
    clear hm
    rcases hq with g1 | ⟨g1, g2⟩
    all_goals
      go_enter Tryd.func16, Tryd.ntmps16
      go_wp2
      go_ret
      exact ⟨by rw [HV.out]; rfl, below_alloc _ _⟩

end Go.Proofs.YtefjgpahgffmfaaDoor
