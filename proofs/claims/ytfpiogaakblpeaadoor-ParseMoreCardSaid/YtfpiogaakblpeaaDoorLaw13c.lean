/- Walk of transhiplaw13.ParseMore. -/
import Derived.Test.YtfpiogaakblpeaaDoorLaw13
import Derived.Test.YtfpiogaakblpeaaDoorLaw14c
import Derived.Test.YtfpiogaakblpeaaDoorFlt
namespace Go.Proofs.YtfpiogaakblpeaaDoor
open Go.RowKit

/-- whatever comes back -/
theorem parse_some (s : ByteArray) (df wf : Nat) (w : World) (ht : Tab w) (hs : s.size ≤ 1099511627776) :
    Calls Tryd.prog 21 #[.string s, .float .f64 df, .float .f64 wf] w fun e w' => ∃ (a0 a1 : Option Addr) (n0 n1 c0 c1 : Nat) (r i er pl : Int) (wd : ByteArray), e = .returned (.tuple #[.agg #[.slice a0 n0 c0, .int .i64 r, .int .i64 i, .slice a1 n1 c1], .int .i64 er, .int .i64 pl, .string wd]) ∧ Below w.heap.size w w' := by
  refine (parseFile_any s df wf w ht hs).mono ?_
  intro e w' h
  unfold FileSays at h
  split at h
  · obtain ⟨cv, v, rfl, h1, h2, _, _, hb⟩ := h
    obtain ⟨_, a0, c0, rfl⟩ := h1.form
    obtain ⟨_, a1, c1, rfl⟩ := h2.form
    exact ⟨_, _, _, _, _, _, _, _, _, _, _, rfl, hb⟩
  · obtain ⟨rfl, hb⟩ := h
    exact ⟨_, _, _, _, _, _, _, _, _, _, _, rfl, hb⟩

set_option maxRecDepth 100000 in
set_option maxHeartbeats 4000000 in
theorem parseMore_walk (s : ByteArray) (df wf dg wg : Nat) (w : World) (ht : Tab w) (hs : s.size ≤ maxLen) :
    Calls Tryd.prog 6 #[.string s, .float .f64 df, .float .f64 wf, .float .f64 dg, .float .f64 wg] w fun e w' => e = .returned (.bool true) ∧ Below w.heap.size w w' := by
  unfold maxLen at hs
  have HT := Lib.hid ht
  clear ht
  by_cases hl : (3000 : Int) < s.size
  · go_enter Tryd.func6, Tryd.ntmps6
    go_wp2
    go_ret
    exact ⟨rfl, Below.refl _ _⟩
  have HS : Hid (s.size ≤ 3000) := Lib.hid (by omega)
  cases hg1 : (FloatKind.f64.format.order dg df == some Ordering.gt || FloatKind.f64.format.order dg df == some Ordering.eq) with
  | false =>
    go_enter Tryd.func6, Tryd.ntmps6
    go_wp2
    go_ret
    exact ⟨rfl, Below.refl _ _⟩
  | true =>
  cases hg2 : (FloatKind.f64.format.order wg wf == some Ordering.gt || FloatKind.f64.format.order wg wf == some Ordering.eq) with
  | false =>
    go_enter Tryd.func6, Tryd.ntmps6
    go_wp2
    go_ret
    exact ⟨rfl, Below.refl _ _⟩
  | true =>
  have hu := wholeM_under (dOK := fun m => withinB m df) (nOK := fun m => withinB m wf) (dOK' := fun m => withinB m dg) (nOK' := fun m => withinB m wg) (fun n h => within_mono hg1 n h) (fun n h => within_mono hg2 n h) s.data.toList
  cases hf : wholeM (fun m => withinB m df) (fun m => withinB m wf) s.data.toList with
  | bad k y =>
    have HF := Lib.hid hf
    have HU := Lib.hid hu
    clear hf hu
    go_enter Tryd.func6, Tryd.ntmps6
    go_wp2_with fail
    refine (parse_bad s df wf _ HT.out (by have := HS.out; omega) k y HF.out).mono ?_
    rintro e w1 ⟨he, hb1⟩
    have HB0 : Hid (Below (w1.heap.size + 1) (w1.alloc (.cells #[.slice none 0 0, .int .i64 0, .int .i64 0, .slice none 0 0] 26)) (w1.alloc (.cells #[.slice none 0 0, .int .i64 0, .int .i64 0, .slice none 0 0] 26))) := Lib.hid (Below.refl _ _)
    have HBW := Lib.hid (hb1.trans ((below_alloc w1 (.cells #[.slice none 0 0, .int .i64 0, .int .i64 0, .slice none 0 0] 26)).mono hb1.size))
    have HZ : Hid ((w1.alloc (.cells #[.slice none 0 0, .int .i64 0, .int .i64 0, .slice none 0 0] 26)).heap.size = w1.heap.size + 1) := Lib.hid (by simp)
    have HZ1 := Lib.hid hb1.size
    clear hb1
    cases y with
    | parse =>
      have HU2 : Hid (wholeM (fun m => withinB m dg) (fun m => withinB m wg) s.data.toList = .bad k .parse) := Lib.hid (by have := HU.out; rw [HF.out] at this; exact this)
      clear HU HF
      obtain ⟨pl, hpl⟩ : ∃ pl, placeM s.data.toList k = pl := ⟨_, rfl⟩
      have HPL := Lib.hid hpl
      clear hpl
      rw [HPL.out] at he
      obtain rfl := he
      simp only [errOf, wordOf, fileV]
      go_wp2_with fail
      refine (parse_bad s dg wg _ (HT.out.below HBW.out) (by have := HS.out; omega) k .parse HU2.out).mono ?_
      rintro e w3 ⟨he, hb3⟩
      rw [HPL.out] at he
      obtain rfl := he
      have HB3 := Lib.hid ((HB0.out.trans (hb3.mono (Nat.le_of_eq HZ.out.symm))).trans ((below_alloc w3 (.cells #[.slice none 0 0, .int .i64 0, .int .i64 0, .slice none 0 0] 26)).mono (by have := hb3.size; rw [HZ.out] at this; exact this)))
      have HBW3 := Lib.hid ((HBW.out.trans (hb3.mono HBW.out.size)).trans ((below_alloc w3 (.cells #[.slice none 0 0, .int .i64 0, .int .i64 0, .slice none 0 0] 26)).mono (Nat.le_trans HBW.out.size hb3.size)))
      have d0 : (w3.alloc (.cells #[.slice none 0 0, .int .i64 0, .int .i64 0, .slice none 0 0] 26)).cell? ⟨w1.heap.size, 0, none⟩ = some (.slice none 0 0) := box_cell HB3.out 0 (by simp)
      have d1 : (w3.alloc (.cells #[.slice none 0 0, .int .i64 0, .int .i64 0, .slice none 0 0] 26)).cell? ⟨w1.heap.size, 1, none⟩ = some (.int .i64 0) := box_cell HB3.out 1 (by simp)
      have d2 : (w3.alloc (.cells #[.slice none 0 0, .int .i64 0, .int .i64 0, .slice none 0 0] 26)).cell? ⟨w1.heap.size, 2, none⟩ = some (.int .i64 0) := box_cell HB3.out 2 (by simp)
      have d3 : (w3.alloc (.cells #[.slice none 0 0, .int .i64 0, .int .i64 0, .slice none 0 0] 26)).cell? ⟨w1.heap.size, 3, none⟩ = some (.slice none 0 0) := box_cell HB3.out 3 (by simp)
      clear hb3
      simp only [errOf, wordOf, fileV]
      go_wp2_with fail
      refine (keepFile_any [] [] _ _ 0 0 0 0 [] [] _ _ _ (.nil none 0) (.nil none 0) (.nil none 0) (.nil none 0)).mono ?_
      rintro e w4 ⟨rfl, hb4⟩
      rw [(sameDs_iff [] []).2 rfl, (sameD_iff (.node 0 0 []) (.node 0 0 [])).2 rfl, Bool.and_self]
      have HB4 := Lib.hid (HBW3.out.trans (hb4.mono HBW3.out.size))
      clear hb4
      go_wp2_with fail
      refine (wakes13 _ (HT.out.below HB4.out)).mono ?_
      rintro e w5 ⟨rfl, hb5⟩
      have HB5 := Lib.hid (HB4.out.trans (hb5.mono HB4.out.size))
      clear hb5
      go_wp2
      go_ret
      exact ⟨rfl, HB5.out⟩
    | deep =>
      clear HU HF
      generalize placeM s.data.toList k = pl at *
      obtain rfl := he
      simp only [errOf, wordOf, fileV]
      go_wp2_with fail
      refine (parse_some s dg wg _ (HT.out.below HBW.out) (by have := HS.out; omega)).mono ?_
      rintro e w3 ⟨a0, a3, n0, n3, c0, c3, r2, i2, er2, pl2, wd2, rfl, hb3⟩
      have HB3 := Lib.hid ((HB0.out.trans (hb3.mono (Nat.le_of_eq HZ.out.symm))).trans ((below_alloc w3 (.cells #[.slice a0 n0 c0, .int .i64 r2, .int .i64 i2, .slice a3 n3 c3] 26)).mono (by have := hb3.size; rw [HZ.out] at this; exact this)))
      have HBW3 := Lib.hid ((HBW.out.trans (hb3.mono HBW.out.size)).trans ((below_alloc w3 (.cells #[.slice a0 n0 c0, .int .i64 r2, .int .i64 i2, .slice a3 n3 c3] 26)).mono (Nat.le_trans HBW.out.size hb3.size)))
      have d0 : (w3.alloc (.cells #[.slice a0 n0 c0, .int .i64 r2, .int .i64 i2, .slice a3 n3 c3] 26)).cell? ⟨w1.heap.size, 0, none⟩ = some (.slice none 0 0) := box_cell HB3.out 0 (by simp)
      have d1 : (w3.alloc (.cells #[.slice a0 n0 c0, .int .i64 r2, .int .i64 i2, .slice a3 n3 c3] 26)).cell? ⟨w1.heap.size, 1, none⟩ = some (.int .i64 0) := box_cell HB3.out 1 (by simp)
      clear hb3
      go_wp2_with fail
      refine (wakes13 _ (HT.out.below HBW3.out)).mono ?_
      rintro e w5 ⟨rfl, hb5⟩
      have HB5 := Lib.hid (HBW3.out.trans (hb5.mono HBW3.out.size))
      clear hb5
      go_wp2
      go_ret
      exact ⟨rfl, HB5.out⟩
    | nodes =>
      clear HU HF
      generalize placeM s.data.toList k = pl at *
      obtain rfl := he
      simp only [errOf, wordOf, fileV]
      go_wp2_with fail
      refine (parse_some s dg wg _ (HT.out.below HBW.out) (by have := HS.out; omega)).mono ?_
      rintro e w3 ⟨a0, a3, n0, n3, c0, c3, r2, i2, er2, pl2, wd2, rfl, hb3⟩
      have HB3 := Lib.hid ((HB0.out.trans (hb3.mono (Nat.le_of_eq HZ.out.symm))).trans ((below_alloc w3 (.cells #[.slice a0 n0 c0, .int .i64 r2, .int .i64 i2, .slice a3 n3 c3] 26)).mono (by have := hb3.size; rw [HZ.out] at this; exact this)))
      have HBW3 := Lib.hid ((HBW.out.trans (hb3.mono HBW.out.size)).trans ((below_alloc w3 (.cells #[.slice a0 n0 c0, .int .i64 r2, .int .i64 i2, .slice a3 n3 c3] 26)).mono (Nat.le_trans HBW.out.size hb3.size)))
      have d0 : (w3.alloc (.cells #[.slice a0 n0 c0, .int .i64 r2, .int .i64 i2, .slice a3 n3 c3] 26)).cell? ⟨w1.heap.size, 0, none⟩ = some (.slice none 0 0) := box_cell HB3.out 0 (by simp)
      have d1 : (w3.alloc (.cells #[.slice a0 n0 c0, .int .i64 r2, .int .i64 i2, .slice a3 n3 c3] 26)).cell? ⟨w1.heap.size, 1, none⟩ = some (.int .i64 0) := box_cell HB3.out 1 (by simp)
      clear hb3
      go_wp2_with fail
      refine (wakes13 _ (HT.out.below HBW3.out)).mono ?_
      rintro e w5 ⟨rfl, hb5⟩
      have HB5 := Lib.hid (HBW3.out.trans (hb5.mono HBW3.out.size))
      clear hb5
      go_wp2
      go_ret
      exact ⟨rfl, HB5.out⟩
  | ok x k n =>
    obtain ⟨cs, ⟨r, i, ks⟩⟩ := x
    rw [hf] at hu
    simp only [Under] at hu
    have HF := Lib.hid hf
    have HU := Lib.hid hu
    clear hf hu
    go_enter Tryd.func6, Tryd.ntmps6
    go_wp2_with fail
    refine (parse_ok s df wf _ HT.out (by have := HS.out; omega) cs (.node r i ks) ⟨k, n, HF.out⟩).mono ?_
    rintro e w1 ⟨cv, v, rfl, hk1, hk2, h64a, h64b, hb1⟩
    obtain ⟨_, a1, c1, rfl⟩ := hk1.form
    obtain ⟨_, a2, c2, rfl⟩ := RepK.form hk2
    have HK : Hid (RepK (w1.alloc (.cells #[.slice a1 cs.length c1, .int .i64 r, .int .i64 i, .slice a2 ks.length c2] 26)) cs (.slice a1 cs.length c1) ∧ RepK (w1.alloc (.cells #[.slice a1 cs.length c1, .int .i64 r, .int .i64 i, .slice a2 ks.length c2] 26)) ks (.slice a2 ks.length c2)) := Lib.hid ⟨hk1.kept (below_alloc _ _), RepK.kept (below_alloc _ _) hk2⟩
    have HB0 : Hid (Below (w1.heap.size + 1) (w1.alloc (.cells #[.slice a1 cs.length c1, .int .i64 r, .int .i64 i, .slice a2 ks.length c2] 26)) (w1.alloc (.cells #[.slice a1 cs.length c1, .int .i64 r, .int .i64 i, .slice a2 ks.length c2] 26))) := Lib.hid (Below.refl _ _)
    have HBW := Lib.hid (hb1.trans ((below_alloc w1 (.cells #[.slice a1 cs.length c1, .int .i64 r, .int .i64 i, .slice a2 ks.length c2] 26)).mono hb1.size))
    have HZ : Hid ((w1.alloc (.cells #[.slice a1 cs.length c1, .int .i64 r, .int .i64 i, .slice a2 ks.length c2] 26)).heap.size = w1.heap.size + 1) := Lib.hid (by simp)
    clear hk1 hk2 hb1 h64a h64b
    simp only [DT.kids, DT.rule, DT.idx, fileV] at *
    go_wp2_with fail
    refine (parse_ok s dg wg _ (HT.out.below HBW.out) (by have := HS.out; omega) cs (.node r i ks) ⟨k, n, HU.out⟩).mono ?_
    rintro e w3 ⟨cv3, v3, rfl, hk3, hk4, _, _, hb3⟩
    obtain ⟨_, a3, c3, rfl⟩ := hk3.form
    obtain ⟨_, a4, c4, rfl⟩ := RepK.form hk4
    have HB3 := Lib.hid ((HB0.out.trans (hb3.mono (Nat.le_of_eq HZ.out.symm))).trans ((below_alloc w3 (.cells #[.slice a3 cs.length c3, .int .i64 r, .int .i64 i, .slice a4 ks.length c4] 26)).mono (by have := hb3.size; rw [HZ.out] at this; exact this)))
    have HBW3 := Lib.hid ((HBW.out.trans (hb3.mono HBW.out.size)).trans ((below_alloc w3 (.cells #[.slice a3 cs.length c3, .int .i64 r, .int .i64 i, .slice a4 ks.length c4] 26)).mono (Nat.le_trans HBW.out.size hb3.size)))
    have HK3 : Hid (RepK (w3.alloc (.cells #[.slice a3 cs.length c3, .int .i64 r, .int .i64 i, .slice a4 ks.length c4] 26)) cs (.slice a3 cs.length c3) ∧ RepK (w3.alloc (.cells #[.slice a3 cs.length c3, .int .i64 r, .int .i64 i, .slice a4 ks.length c4] 26)) ks (.slice a4 ks.length c4)) := Lib.hid ⟨hk3.kept (below_alloc _ _), RepK.kept (below_alloc _ _) hk4⟩
    have d0 : (w3.alloc (.cells #[.slice a3 cs.length c3, .int .i64 r, .int .i64 i, .slice a4 ks.length c4] 26)).cell? ⟨w1.heap.size, 0, none⟩ = some (.slice a1 cs.length c1) := box_cell HB3.out 0 (by simp)
    have d1 : (w3.alloc (.cells #[.slice a3 cs.length c3, .int .i64 r, .int .i64 i, .slice a4 ks.length c4] 26)).cell? ⟨w1.heap.size, 1, none⟩ = some (.int .i64 r) := box_cell HB3.out 1 (by simp)
    have d2 : (w3.alloc (.cells #[.slice a3 cs.length c3, .int .i64 r, .int .i64 i, .slice a4 ks.length c4] 26)).cell? ⟨w1.heap.size, 2, none⟩ = some (.int .i64 i) := box_cell HB3.out 2 (by simp)
    have d3 : (w3.alloc (.cells #[.slice a3 cs.length c3, .int .i64 r, .int .i64 i, .slice a4 ks.length c4] 26)).cell? ⟨w1.heap.size, 3, none⟩ = some (.slice a2 ks.length c2) := box_cell HB3.out 3 (by simp)
    clear hk3 hk4 hb3
    simp only [DT.kids, DT.rule, DT.idx, fileV] at *
    go_wp2_with fail
    refine (keepFile_any cs cs _ _ r i r i ks ks _ _ _ (HK.out.1.kept (HB3.out.mono (Nat.le_of_eq HZ.out))) HK3.out.1 (HK.out.2.kept (HB3.out.mono (Nat.le_of_eq HZ.out))) HK3.out.2).mono ?_
    rintro e w4 ⟨rfl, hb4⟩
    rw [(sameDs_iff cs cs).2 rfl, (sameD_iff (.node r i ks) (.node r i ks)).2 rfl, Bool.and_self]
    have HB4 := Lib.hid (HBW3.out.trans (hb4.mono HBW3.out.size))
    clear hb4
    go_wp2_with fail
    refine (wakes13 _ (HT.out.below HB4.out)).mono ?_
    rintro e w5 ⟨rfl, hb5⟩
    have HB5 := Lib.hid (HB4.out.trans (hb5.mono HB4.out.size))
    clear hb5
    go_wp2
    go_ret
    exact ⟨rfl, HB5.out⟩
end Go.Proofs.YtfpiogaakblpeaaDoor
