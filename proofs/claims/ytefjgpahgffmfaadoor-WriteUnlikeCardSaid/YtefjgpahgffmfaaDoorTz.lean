/- Bound of a term's text; walk of write.Write. -/
import Derived.Test.YtefjgpahgffmfaaDoorTy
namespace Go.Proofs.YtefjgpahgffmfaaDoor
open Go.RowKit

theorem numbers_in {k i j n : Int} (h1 : 1 ≤ k) (h2 : k ≤ 23) (h : numbersB k i j n = true) : In64 i ∧ In64 j := by
  unfold numbersB levelB at h
  by_cases g1 : k = 1 ∨ k = 10 ∨ k = 11 ∨ k = 12
  · rw [if_pos g1] at h; simp at h; exact ⟨⟨by omega, by omega⟩, ⟨by omega, by omega⟩⟩
  rw [if_neg g1] at h
  by_cases g2 : k = 2
  · rw [if_pos g2] at h; simp at h; exact ⟨⟨by omega, by omega⟩, ⟨by omega, by omega⟩⟩
  rw [if_neg g2] at h
  by_cases g3 : k = 3 ∨ k = 4 ∨ k = 5 ∨ k = 6 ∨ k = 7 ∨ k = 8 ∨ k = 9
  · rw [if_pos g3] at h; simp at h; exact ⟨⟨by omega, by omega⟩, ⟨by omega, by omega⟩⟩
  rw [if_neg g3] at h
  by_cases g4 : k = 23
  · rw [if_pos g4] at h; simp at h; exact ⟨⟨by omega, by omega⟩, ⟨by omega, by omega⟩⟩
  rw [if_neg g4] at h
  simp at h; exact ⟨⟨by omega, by omega⟩, ⟨by omega, by omega⟩⟩
theorem pcJ_le (k : Int) {m : Int} (x : Nat) (h0 : 0 ≤ m) (h1 : m ≤ 1099511627776) : (pcJ k m x).length ≤ 44 := by
  have a := nameL_le (n := m) ⟨by omega, by omega⟩
  have b := nameL_le (n := m + 1) ⟨by omega, by omega⟩
  unfold pcJ
  split <;> simp <;> omega
theorem writeTs_cons (k m : Int) (x : Nat) (t : TT) (ts : List TT) : writeTs k m x (t :: ts) = pcJ k m x ++ 32 :: (writeT t (m + bindsK k x) ++ writeTs k m (x + 1) ts) := by simp [writeTs, pcJ]
mutual
theorem writeT_le : ∀ (t : TT) (m w : Int), 0 ≤ m → m + 2 * sizeT t ≤ 1099511627776 → rightT t w = true → (writeT t m).length + 50 ≤ 200 * sizeT t
  | .node k i j n ks, m, w, h0, h1, h => by
    obtain ⟨r1, r2, r3⟩ := rightT_parts h
    obtain ⟨hk1, hk23⟩ := kidsK_in r1
    by_cases hk : k = 2
    · subst hk
      rw [show numbersB 2 i j n = (decide (0 ≤ i) && decide (i ≤ 2147483647) && j == 0 && n == 0) from rfl] at r2
      simp only [Bool.and_eq_true, decide_eq_true_eq] at r2
      simp only [sizeT] at h1 ⊢
      have := nameL_le (n := m - 1 - i) ⟨by omega, by omega⟩
      simp only [writeT, if_pos rfl]
      simp
      omega
    · simp only [sizeT] at h1 ⊢
      rw [writeT_open hk]
      have a1 := wordF_le k n
      obtain ⟨hi, hj⟩ := numbers_in hk1 hk23 r2
      have a2 : (pc1 k i).length ≤ 21 := by have := itoa_le hi; unfold pc1; split <;> simp <;> omega
      have a3 : (pc2 k j).length ≤ 21 := by have := itoa_le hj; unfold pc2; split <;> simp <;> omega
      have a4 : (pc3 k m).length ≤ 22 := by have := nameL_le (n := m) ⟨by omega, by omega⟩; unfold pc3; split <;> simp <;> omega
      have a5 := writeTs_le k m 0 ks h0 (by omega) r3
      simp
      omega
theorem writeTs_le : ∀ (k m : Int) (x : Nat) (ks : List TT), 0 ≤ m → m + 2 * (1 + sizeTs ks) ≤ 1099511627776 → rightTs k x ks = true → (writeTs k m x ks).length ≤ 200 * sizeTs ks
  | _, _, _, [], _, _, _ => by simp [writeTs]
  | k, m, x, t :: ts, h0, h1, h => by
    simp only [rightTs, Bool.and_eq_true] at h
    simp only [sizeTs] at h1 ⊢
    have hb := bindsK_in k x
    have a1 := writeT_le t (m + bindsK k x) _ (by omega) (by omega) h.1
    have a2 := writeTs_le k m (x + 1) ts h0 (by omega) h.2
    have a3 := pcJ_le k x h0 (by omega : m ≤ 1099511627776)
    rw [writeTs_cons]
    simp
    omega
end
theorem sizeT_pos : ∀ (t : TT), 1 ≤ sizeT t
  | .node k i j n ks => by simp only [sizeT]; omega
/-- write.Write -/
def writeW (t : TT) (m : Int) : List UInt8 := if m < 0 ∨ 1000000 < m ∨ rightT t 0 = false ∨ m < freeOf t then [] else writeT t m
theorem writeW_in {t : TT} {m : Int} (h1 : 0 ≤ m) (h2 : m ≤ 1000000) (h3 : rightT t 0 = true) (h4 : ¬ m < freeOf t) : writeW t m = writeT t m := by
  unfold writeW
  rw [if_neg]
  rintro (h | h | h | h)
  · omega
  · omega
  · rw [h3] at h; cases h
  · exact h4 h

set_option maxRecDepth 100000 in
set_option maxHeartbeats 4000000 in
theorem writeW_any (k i j n : Int) (ks : List TT) (v : Value) (m : Int) (w : World) (hrep : RepT w ks v) (h4 : In4 k i j n) (hsz : sizeT (.node k i j n ks) ≤ 1000000) (ht : Tab w) :
    Calls Tryd.prog 15 #[termV k i j n v, .int .i64 m] w fun e w' => e = .returned (.string ⟨(writeW (.node k i j n ks) m).toArray⟩) ∧ Below w.heap.size w w' := by
  obtain ⟨hlen, a, c, rfl⟩ := hrep.form
  clear hlen
  have HT := Lib.hid ht
  have HR := Lib.hid (And.intro hrep (And.intro h4 hsz))
  clear ht hrep h4 hsz
  unfold termV
  by_cases hm : 0 ≤ m ∧ m ≤ 1000000
  · obtain ⟨q, rfl⟩ := Int.eq_ofNat_of_zero_le hm.1
    have g1 : decide ((q : Int) < 0) = false := by simp
    have g2 : decide (1000000 < (q : Int)) = false := by simp; omega
    have hq : q ≤ 1000000 := by omega
    clear hm
    go_enter Tryd.func15, Tryd.ntmps15
    go_wp2_with fail
    refine (termRight_any k i j n ks _ _ (HR.out.1.kept (below_alloc _ _))).mono ?_
    rintro e w1 ⟨rfl, hb1⟩
    have HFS : Hid (Below (w.heap.size + 1) (w.alloc (.cells #[.int .i64 k, .int .i64 i, .int .i64 j, .int .i64 n, .slice a ks.length c] 24)) w1) := Lib.hid (by simpa using hb1)
    clear hb1
    have c0 : w1.cell? ⟨w.heap.size, 0, none⟩ = some (.int .i64 k) := by rw [box_cell HFS.out 0 (by simp)]; rfl
    have c1 : w1.cell? ⟨w.heap.size, 1, none⟩ = some (.int .i64 i) := by rw [box_cell HFS.out 1 (by simp)]; rfl
    have c2 : w1.cell? ⟨w.heap.size, 2, none⟩ = some (.int .i64 j) := by rw [box_cell HFS.out 2 (by simp)]; rfl
    have c3 : w1.cell? ⟨w.heap.size, 3, none⟩ = some (.int .i64 n) := by rw [box_cell HFS.out 3 (by simp)]; rfl
    have c4 : w1.cell? ⟨w.heap.size, 4, none⟩ = some (.slice a ks.length c) := by rw [box_cell HFS.out 4 (by simp)]; rfl
    cases hr : rightT (.node k i j n ks) 0
    · have HV : Hid (writeW (.node k i j n ks) q = []) := Lib.hid (by unfold writeW; rw [if_pos (.inr (.inr (.inl hr)))])
      clear hr
      go_wp2
      go_ret
      exact ⟨by rw [HV.out]; rfl, below_of_box HFS.out⟩
    have HQ := Lib.hid hr
    clear hr
    go_wp2_with fail
    refine (termFree_any k i j n ks _ _ (HR.out.1.kept (below_of_box HFS.out)) HR.out.2.2).mono ?_
    rintro e w2 ⟨rfl, hb2⟩
    have HFS2 : Hid (Below (w.heap.size + 1) (w.alloc (.cells #[.int .i64 k, .int .i64 i, .int .i64 j, .int .i64 n, .slice a ks.length c] 24)) w2) := Lib.hid (HFS.out.trans (hb2.mono (by simpa using HFS.out.size)))
    clear hb2 c0 c1 c2 c3 c4
    have c0 : w2.cell? ⟨w.heap.size, 0, none⟩ = some (.int .i64 k) := by rw [box_cell HFS2.out 0 (by simp)]; rfl
    have c1 : w2.cell? ⟨w.heap.size, 1, none⟩ = some (.int .i64 i) := by rw [box_cell HFS2.out 1 (by simp)]; rfl
    have c2 : w2.cell? ⟨w.heap.size, 2, none⟩ = some (.int .i64 j) := by rw [box_cell HFS2.out 2 (by simp)]; rfl
    have c3 : w2.cell? ⟨w.heap.size, 3, none⟩ = some (.int .i64 n) := by rw [box_cell HFS2.out 3 (by simp)]; rfl
    have c4 : w2.cell? ⟨w.heap.size, 4, none⟩ = some (.slice a ks.length c) := by rw [box_cell HFS2.out 4 (by simp)]; rfl
    have HLE : Hid ((writeT (.node k i j n ks) q).length ≤ 70368744177664) := Lib.hid (by
      have h1 := HR.out.2.2
      have := writeT_le (.node k i j n ks) q 0 (by omega) (by omega) HQ.out
      omega)
    have hfr : decide ((q : Int) < freeOf (.node k i j n ks)) = true ∧ writeW (.node k i j n ks) q = [] ∨ decide ((q : Int) < freeOf (.node k i j n ks)) = false ∧ writeW (.node k i j n ks) q = writeT (.node k i j n ks) q := by
      by_cases hf : (q : Int) < freeOf (.node k i j n ks)
      · exact .inl ⟨by simp [hf], by unfold writeW; rw [if_pos (.inr (.inr (.inr hf)))]⟩
      · exact .inr ⟨by simp [hf], writeW_in (by omega) (by omega) HQ.out hf⟩
    generalize freeOf (.node k i j n ks) = fr at hfr
    rcases hfr with ⟨g3, hv⟩ | ⟨g3, hv⟩
    · have HV := Lib.hid hv
      clear hv
      go_wp2
      go_ret
      exact ⟨by rw [HV.out]; rfl, below_of_box HFS2.out⟩
    · have HV := Lib.hid hv
      clear hv
      have hsb : w.heap.size < w2.heap.size := by have := HFS2.out.size; simp at this; omega
      go_wp2_with fail
      refine (write_all _ k i j n ks _ q 0 w2 _ w2.heap.size [] (Nat.lt_succ_self _) (HR.out.1.kept (below_of_box HFS2.out)) HR.out.2.1 HQ.out (by have := HR.out.2.2; omega) (HT.out.below (below_of_box HFS2.out)) (ShowSt.fresh w2) (by simpa using HLE.out)).mono ?_
      rintro e w3 ⟨rfl, hs3⟩
      have HS3 := Lib.hid hs3
      clear hs3
      go_wp2_with fail
      refine (stringOf HS3.out).mono ?_
      rintro e w4 ⟨rfl, hb4⟩
      have HB4 := Lib.hid (HS3.out.bel.trans hb4)
      clear hb4
      go_wp2
      go_ret
      exact ⟨by rw [HV.out]; rfl, (below_of_box HFS2.out).trans (HB4.out.mono (Nat.le_of_lt hsb))⟩
  · have HV : Hid (writeW (.node k i j n ks) m = []) := Lib.hid (by unfold writeW; rw [if_pos (by omega)])
    have hq : decide (m < 0) = true ∨ decide (m < 0) = false ∧ decide (1000000 < m) = true := by
      by_cases h1 : m < 0
      · exact .inl (by simp [h1])
      · exact .inr ⟨by simp [h1], by simp; omega⟩
    clear hm
    rcases hq with g1 | ⟨g1, g2⟩
    all_goals
      go_enter Tryd.func15, Tryd.ntmps15
      go_wp2
      go_ret
      exact ⟨by rw [HV.out]; rfl, below_alloc _ _⟩
end Go.Proofs.YtefjgpahgffmfaaDoor
