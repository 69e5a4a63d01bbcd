/- Walk of transhiplaw10.WriteBack. -/
import Derived.Test.YtefjgpahgffmfaaDoorWb
import Derived.Test.YtefjgpahgffmfaaDoorLaw09
namespace Go.Proofs.YtefjgpahgffmfaaDoor
open Go.RowKit

set_option maxRecDepth 100000 in
set_option maxHeartbeats 4000000 in
theorem writeBack_walk (k i j n : Int) (ks : List TT) (v : Value) (m : Int) (w : World) (hrep : RepT w ks v) (h4 : In4 k i j n) (ht : Tab w) :
    Calls Tryd.prog 12 #[termV k i j n v, .int .i64 m] w fun e w' => e = .returned (.bool true) ∧ Below w.heap.size w w' := by
  obtain ⟨hkl, a, c, rfl⟩ := hrep.form
  clear hkl
  have HT := Lib.hid ht
  have HR := Lib.hid (And.intro hrep h4)
  clear hrep h4 ht
  unfold termV
  have hx0 := new_heap w #[.int .i64 k, .int .i64 i, .int .i64 j, .int .i64 n, .slice a ks.length c] 24
  have HB0 : Hid (Below w.heap.size w (w.alloc (.cells #[.int .i64 k, .int .i64 i, .int .i64 j, .int .i64 n, .slice a ks.length c] 24)) ∧ (w.alloc (.cells #[.int .i64 k, .int .i64 i, .int .i64 j, .int .i64 n, .slice a ks.length c] 24)).heap.size = w.heap.size + 1) := Lib.hid ⟨below_alloc _ _, by simp⟩
  have HX0 := Lib.hid hx0
  clear hx0
  obtain ⟨x0, x1, x2, x3, x4⟩ := box_cells5 HX0.out
  go_enter Tryd.func12, Tryd.ntmps12
  go_wp2_with fail
  generalize w.alloc (.cells #[.int .i64 k, .int .i64 i, .int .i64 j, .int .i64 n, .slice a ks.length c] 24) = W0 at *
  have KEY : Hid (∀ w', Below W0.heap.size W0 w' → w'.heap[w.heap.size]? = some (.cells #[.int .i64 k, .int .i64 i, .int .i64 j, .int .i64 n, .slice a ks.length c] 24 (0, 0)) ∧ Below w.heap.size w w' ∧ W0.heap.size ≤ w'.heap.size) := Lib.hid (fun w' h =>
    ⟨(h.block _ (by rw [HB0.out.2]; omega)).trans HX0.out, HB0.out.1.trans (h.mono HB0.out.1.size), h.size⟩)
  refine (great_any k i j n ks _ 300 _ (HR.out.1.kept HB0.out.1) (by omega) (by omega)).mono ?_
  rintro e w1 ⟨rfl, hb⟩
  have HB1 := Lib.hid hb
  clear hb x0 x1 x2 x3 x4
  cases hg : decide (300 < weigh (.node k i j n ks) 300 200)
  case true =>
    clear hg
    go_wp2
    go_ret
    exact ⟨rfl, (KEY.out _ HB1.out).2.1⟩
  have HSZ : Hid (sizeT (.node k i j n ks) ≤ 500) := Lib.hid (by
    have h1 : weigh (.node k i j n ks) 300 200 ≤ 300 := by simpa using hg
    have := weigh_size _ _ _ h1
    omega)
  clear hg
  obtain ⟨x0, x1, x2, x3, x4⟩ := box_cells5 (KEY.out _ HB1.out).1
  go_wp2_with fail
  refine (rright04_any k i j n ks _ _ (HR.out.1.kept (KEY.out _ HB1.out).2.1)).mono ?_
  rintro e w2 ⟨rfl, hb⟩
  have HB2 := Lib.hid (HB1.out.trans (hb.mono HB1.out.size))
  clear hb x0 x1 x2 x3 x4
  cases hq1 : rightT (.node k i j n ks) 0
  case false =>
    clear hq1
    go_wp2
    go_ret
    exact ⟨rfl, (KEY.out _ HB2.out).2.1⟩
  have HQ := Lib.hid hq1
  clear hq1
  obtain ⟨x0, x1, x2, x3, x4⟩ := box_cells5 (KEY.out _ HB2.out).1
  go_wp2_with fail
  refine (rFree04_any k i j n ks _ _ (HR.out.1.kept (KEY.out _ HB2.out).2.1)).mono ?_
  rintro e w3 ⟨rfl, hb⟩
  have HB3 := Lib.hid (HB2.out.trans (hb.mono HB2.out.size))
  clear hb x0 x1 x2 x3 x4
  rcases Bool.eq_false_or_eq_true (decide (m < freeOf (.node k i j n ks))) with hf1 | hf1
  · go_wp2
    go_ret
    exact ⟨rfl, (KEY.out _ HB3.out).2.1⟩
  rcases Bool.eq_false_or_eq_true (decide (200 < m)) with hm | hm
  · go_wp2
    go_ret
    exact ⟨rfl, (KEY.out _ HB3.out).2.1⟩
  obtain ⟨M, rfl, HM⟩ : ∃ M : Nat, m = (M : Int) ∧ Hid (M ≤ 200 ∧ freeR (.node k i j n ks) ≤ M) := by
    have h1 : ¬ m < freeOf (.node k i j n ks) := by simpa using hf1
    have h2 : ¬ 200 < m := by simpa using hm
    rw [freeOf_R HQ.out] at h1
    have h3 := freeR_in _ _ HQ.out
    obtain ⟨M, rfl⟩ := Int.eq_ofNat_of_zero_le (show 0 ≤ m by omega)
    exact ⟨M, rfl, Lib.hid ⟨by omega, by omega⟩⟩
  obtain ⟨x0, x1, x2, x3, x4⟩ := box_cells5 (KEY.out _ HB3.out).1
  go_wp2_with fail
  have hWW : writeW (.node k i j n ks) (M : Int) = writeT (.node k i j n ks) (M : Int) := writeW_in (by omega) (by have := HM.out.1; omega) HQ.out (by simpa using hf1)
  have HLEN : Hid ((writeT (.node k i j n ks) (M : Int)).length ≤ 100000) := Lib.hid (by
    have h1 := HSZ.out
    have h2 := HM.out.1
    have := writeT_le (.node k i j n ks) M 0 (by omega) (by omega) HQ.out
    omega)
  refine (writeW_any k i j n ks _ M _ (HR.out.1.kept (KEY.out _ HB3.out).2.1) HR.out.2 (Nat.le_trans HSZ.out (by decide)) (HT.out.below (KEY.out _ HB3.out).2.1)).mono ?_
  rintro e w4 ⟨rfl, hb⟩
  rw [hWW]
  have HB4 := Lib.hid (HB3.out.trans (hb.mono HB3.out.size))
  clear hb hWW x0 x1 x2 x3 x4
  obtain ⟨q, hq⟩ := read_written (i0 := 0) (j0 := 0) HQ.out HM.out.2 (by have h1 := HSZ.out; have h2 := HM.out.1; omega)
  have HRD := Lib.hid hq
  clear hq
  generalize writeT (.node k i j n ks) (M : Int) = L at *
  go_wp2_with fail
  refine (wNames_any M w4 (by have := HM.out.1; omega) (HT.out.below (KEY.out _ HB4.out).2.1)).mono ?_
  rintro e w5 ⟨nv, rfl, hb, hown⟩
  have HB5 := Lib.hid (HB4.out.trans (hb.mono HB4.out.size))
  have HN : Hid (Has w5 1 nv (namesL M).length (textRow (namesL M))) := Lib.hid (by rw [namesL_len]; exact Has.of_owns hown)
  clear hb hown
  go_wp2_with fail
  refine (read_ok ⟨L.toArray⟩ 0 0 w5 (HT.out.below (KEY.out _ HB5.out).2.1) (Nat.le_trans (Nat.le_of_eq (show (ByteArray.mk L.toArray).size = L.length from rfl)) (Nat.le_trans HLEN.out (by decide))) HN.out (by rw [namesL_len]; exact Nat.le_trans HM.out.1 (by decide)) (by decide) HRD.out).mono ?_
  rintro e w6 ⟨ka, kc, rfl, hrep, -, hb⟩
  have HB6 := Lib.hid (HB5.out.trans (hb.mono HB5.out.size))
  have HREP := Lib.hid hrep
  have HX6 : Hid ((w6.alloc (.cells #[.int .i64 k, .int .i64 i, .int .i64 j, .int .i64 n, .slice ka ks.length kc] 24)).heap[w6.heap.size]? = some (.cells #[.int .i64 k, .int .i64 i, .int .i64 j, .int .i64 n, .slice ka ks.length kc] 24 (0, 0)) ∧ Below w6.heap.size w6 (w6.alloc (.cells #[.int .i64 k, .int .i64 i, .int .i64 j, .int .i64 n, .slice ka ks.length kc] 24))) := Lib.hid ⟨new_heap _ _ _, below_alloc _ _⟩
  have HB7 : Hid (Below W0.heap.size W0 (w6.alloc (.cells #[.int .i64 k, .int .i64 i, .int .i64 j, .int .i64 n, .slice ka ks.length kc] 24))) := Lib.hid (HB6.out.trans (HX6.out.2.mono HB6.out.size))
  have g1 : sameT (.node k i j n ks) (.node k i j n ks) = true := (sameT_iff _ _).2 rfl
  clear hb hrep
  obtain ⟨x0, x1, x2, x3, x4⟩ := box_cells5 (KEY.out _ HB7.out).1
  obtain ⟨y0, y1, y2, y3, y4⟩ := box_cells5 HX6.out.1
  unfold termV
  go_wp2_with fail
  refine (same_any k i j n k i j n ks ks _ _ _ (HREP.out.kept HX6.out.2) (HR.out.1.kept (KEY.out _ HB7.out).2.1)).mono ?_
  rintro e w8 ⟨rfl, hb⟩
  have HB8 := Lib.hid (HB7.out.trans (hb.mono HB7.out.size))
  clear hb x0 x1 x2 x3 x4 y0 y1 y2 y3 y4
  rw [g1]
  go_wp2_with fail
  refine (wakes10 _ (HT.out.below (KEY.out _ HB8.out).2.1)).mono ?_
  rintro e w9 ⟨rfl, hb⟩
  have HB9 := Lib.hid (HB8.out.trans (hb.mono HB8.out.size))
  clear hb
  go_wp2
  go_ret
  exact ⟨rfl, (KEY.out _ HB9.out).2.1⟩
end Go.Proofs.YtefjgpahgffmfaaDoor
