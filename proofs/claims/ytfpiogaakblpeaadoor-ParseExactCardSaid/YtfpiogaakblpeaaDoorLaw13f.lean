/- Walk of transhiplaw13.ParseExact. -/
import Derived.Test.YtfpiogaakblpeaaDoorLaw13
import Derived.Test.YtfpiogaakblpeaaDoorLaw14c
import Derived.Test.YtfpiogaakblpeaaDoorRdI
namespace Go.Proofs.YtfpiogaakblpeaaDoor
open Go.RowKit

theorem rfile_any (s : ByteArray) (df wf : Nat) (w : World) (hs : s.size ≤ 1099511627776) :
    Calls Tryd.prog 22 #[.string s, .float .f64 df, .float .f64 wf] w (FileSays w s.data.toList df wf) := by
  by_cases h0 : kindAt (lexL s.data.toList).1 0 = 1
  · by_cases h1 : kindAt (lexL s.data.toList).1 1 = 3
    · by_cases h2 : textAt (lexL s.data.toList).1 1 = wordFile
      · exact rfile_c s df wf w hs h0 h1 h2
      · exact rfile_b s df wf w hs h0 (.inr h2)
    · exact rfile_b s df wf w hs h0 (.inl h1)
  · exact rfile_a s df wf w hs h0
theorem rparse_ok (s : ByteArray) (df wf : Nat) (w : World) (hs : s.size ≤ 1099511627776) (cs : List DT) (d : DT) (h : ∃ k n, wholeM (fun m => withinB m df) (fun m => withinB m wf) s.data.toList = .ok (cs, d) k n) :
    Calls Tryd.prog 22 #[.string s, .float .f64 df, .float .f64 wf] w (FileOk w cs d) := by
  obtain ⟨k, n, h⟩ := h
  refine (rfile_any s df wf w hs).mono ?_
  intro e w' h2
  unfold FileSays at h2
  rw [h] at h2
  exact h2
theorem rparse_bad (s : ByteArray) (df wf : Nat) (w : World) (hs : s.size ≤ 1099511627776) (k : Nat) (y : Why) (h : wholeM (fun m => withinB m df) (fun m => withinB m wf) s.data.toList = .bad k y) :
    Calls Tryd.prog 22 #[.string s, .float .f64 df, .float .f64 wf] w (FileBad w (errOf y) (placeM s.data.toList k) (wordOf y)) := by
  refine (rfile_any s df wf w hs).mono ?_
  intro e w' h2
  unfold FileSays at h2
  rw [h] at h2
  exact h2

set_option maxRecDepth 100000 in
set_option maxHeartbeats 4000000 in
theorem parseExact_walk (s : ByteArray) (df wf : Nat) (w : World) (ht : Tab w) (hs : s.size ≤ maxLen) :
    Calls Tryd.prog 5 #[.string s, .float .f64 df, .float .f64 wf] w fun e w' => e = .returned (.bool true) ∧ Below w.heap.size w w' := by
  unfold maxLen at hs
  have HT := Lib.hid ht
  clear ht
  by_cases hl : (3000 : Int) < s.size
  · go_enter Tryd.func5, Tryd.ntmps5
    go_wp2
    go_ret
    exact ⟨rfl, Below.refl _ _⟩
  have HS : Hid (s.size ≤ 3000) := Lib.hid (by omega)
  cases hf : wholeM (fun m => withinB m df) (fun m => withinB m wf) s.data.toList with
  | bad k y =>
    have HF := Lib.hid hf
    clear hf
    go_enter Tryd.func5, Tryd.ntmps5
    go_wp2_with fail
    refine (parse_bad s df wf _ HT.out (by have := HS.out; omega) k y HF.out).mono ?_
    rintro e w1 ⟨he, hb1⟩
    have HB0 : Hid (Below (w1.heap.size + 1) (w1.alloc (.cells #[.slice none 0 0, .int .i64 0, .int .i64 0, .slice none 0 0] 26)) (w1.alloc (.cells #[.slice none 0 0, .int .i64 0, .int .i64 0, .slice none 0 0] 26))) := Lib.hid (Below.refl _ _)
    have HBW := Lib.hid (hb1.trans ((below_alloc w1 (.cells #[.slice none 0 0, .int .i64 0, .int .i64 0, .slice none 0 0] 26)).mono hb1.size))
    have HZ : Hid ((w1.alloc (.cells #[.slice none 0 0, .int .i64 0, .int .i64 0, .slice none 0 0] 26)).heap.size = w1.heap.size + 1) := Lib.hid (by simp)
    clear hb1
    obtain ⟨pl, hpl⟩ : ∃ pl, placeM s.data.toList k = pl := ⟨_, rfl⟩
    have HPL := Lib.hid hpl
    clear hpl
    rw [HPL.out] at he
    cases y
    all_goals
      obtain rfl := he
      simp only [errOf, wordOf, fileV]
      go_wp2_with fail
      refine (rparse_bad s df wf _ (by have := HS.out; omega) k _ HF.out).mono ?_
      rintro e w3 ⟨he, hb3⟩
      rw [HPL.out] at he
      obtain rfl := he
      have HB3 := Lib.hid ((HB0.out.trans (hb3.mono (Nat.le_of_eq HZ.out.symm))).trans ((below_alloc w3 (.cells #[.slice none 0 0, .int .i64 0, .int .i64 0, .slice none 0 0] 26)).mono (by have := hb3.size; rw [HZ.out] at this; exact this)))
      have HBW3 := Lib.hid ((HBW.out.trans (hb3.mono HBW.out.size)).trans ((below_alloc w3 (.cells #[.slice none 0 0, .int .i64 0, .int .i64 0, .slice none 0 0] 26)).mono (Nat.le_trans HBW.out.size hb3.size)))
      have d0 : (w3.alloc (.cells #[.slice none 0 0, .int .i64 0, .int .i64 0, .slice none 0 0] 26)).cell? ⟨w1.heap.size, 0, none⟩ = some (.slice none 0 0) := box_cell HB3.out 0 (by simp)
      have d1 : (w3.alloc (.cells #[.slice none 0 0, .int .i64 0, .int .i64 0, .slice none 0 0] 26)).cell? ⟨w1.heap.size, 1, none⟩ = some (.int .i64 0) := box_cell HB3.out 1 (by simp)
      have d2 : (w3.alloc (.cells #[.slice none 0 0, .int .i64 0, .int .i64 0, .slice none 0 0] 26)).cell? ⟨w1.heap.size, 2, none⟩ = some (.int .i64 0) := box_cell HB3.out 2 (by simp)
      have d3 : (w3.alloc (.cells #[.slice none 0 0, .int .i64 0, .int .i64 0, .slice none 0 0] 26)).cell? ⟨w1.heap.size, 3, none⟩ = some (.slice none 0 0) := box_cell HB3.out 3 (by simp)
      clear hb3
      simp only [errOf, wordOf, fileV]
      go_wp2_with fail
      refine (keepFile_any [] [] _ _ 0 0 0 0 [] [] _ _ _ (.nil none 0) (.nil none 0) (.nil none 0) (.nil none 0)).mono ?_
      rintro e w4 ⟨rfl, hb4⟩
      rw [(sameDs_iff [] []).2 rfl, (sameD_iff (.node 0 0 []) (.node 0 0 [])).2 rfl, Bool.and_self]
      have HB4 := Lib.hid (HBW3.out.trans (hb4.mono HBW3.out.size))
      clear hb4
      go_wp2_with fail
      refine (wakes13 _ (HT.out.below HB4.out)).mono ?_
      rintro e w5 ⟨rfl, hb5⟩
      have HB5 := Lib.hid (HB4.out.trans (hb5.mono HB4.out.size))
      clear hb5
      go_wp2
      go_ret
      exact ⟨rfl, HB5.out⟩
  | ok x k n =>
    obtain ⟨cs, ⟨r, i, ks⟩⟩ := x
    have HF := Lib.hid hf
    clear hf
    go_enter Tryd.func5, Tryd.ntmps5
    go_wp2_with fail
    refine (parse_ok s df wf _ HT.out (by have := HS.out; omega) cs (.node r i ks) ⟨k, n, HF.out⟩).mono ?_
    rintro e w1 ⟨cv, v, rfl, hk1, hk2, h64a, h64b, hb1⟩
    obtain ⟨_, a1, c1, rfl⟩ := hk1.form
    obtain ⟨_, a2, c2, rfl⟩ := RepK.form hk2
    have HK : Hid (RepK (w1.alloc (.cells #[.slice a1 cs.length c1, .int .i64 r, .int .i64 i, .slice a2 ks.length c2] 26)) cs (.slice a1 cs.length c1) ∧ RepK (w1.alloc (.cells #[.slice a1 cs.length c1, .int .i64 r, .int .i64 i, .slice a2 ks.length c2] 26)) ks (.slice a2 ks.length c2)) := Lib.hid ⟨hk1.kept (below_alloc _ _), RepK.kept (below_alloc _ _) hk2⟩
    have HB0 : Hid (Below (w1.heap.size + 1) (w1.alloc (.cells #[.slice a1 cs.length c1, .int .i64 r, .int .i64 i, .slice a2 ks.length c2] 26)) (w1.alloc (.cells #[.slice a1 cs.length c1, .int .i64 r, .int .i64 i, .slice a2 ks.length c2] 26))) := Lib.hid (Below.refl _ _)
    have HBW := Lib.hid (hb1.trans ((below_alloc w1 (.cells #[.slice a1 cs.length c1, .int .i64 r, .int .i64 i, .slice a2 ks.length c2] 26)).mono hb1.size))
    have HZ : Hid ((w1.alloc (.cells #[.slice a1 cs.length c1, .int .i64 r, .int .i64 i, .slice a2 ks.length c2] 26)).heap.size = w1.heap.size + 1) := Lib.hid (by simp)
    clear hk1 hk2 hb1 h64a h64b
    simp only [DT.kids, DT.rule, DT.idx, fileV] at *
    go_wp2_with fail
    refine (rparse_ok s df wf _ (by have := HS.out; omega) cs (.node r i ks) ⟨k, n, HF.out⟩).mono ?_
    rintro e w3 ⟨cv3, v3, rfl, hk3, hk4, _, _, hb3⟩
    obtain ⟨_, a3, c3, rfl⟩ := hk3.form
    obtain ⟨_, a4, c4, rfl⟩ := RepK.form hk4
    have HB3 := Lib.hid ((HB0.out.trans (hb3.mono (Nat.le_of_eq HZ.out.symm))).trans ((below_alloc w3 (.cells #[.slice a3 cs.length c3, .int .i64 r, .int .i64 i, .slice a4 ks.length c4] 26)).mono (by have := hb3.size; rw [HZ.out] at this; exact this)))
    have HBW3 := Lib.hid ((HBW.out.trans (hb3.mono HBW.out.size)).trans ((below_alloc w3 (.cells #[.slice a3 cs.length c3, .int .i64 r, .int .i64 i, .slice a4 ks.length c4] 26)).mono (Nat.le_trans HBW.out.size hb3.size)))
    have HK3 : Hid (RepK (w3.alloc (.cells #[.slice a3 cs.length c3, .int .i64 r, .int .i64 i, .slice a4 ks.length c4] 26)) cs (.slice a3 cs.length c3) ∧ RepK (w3.alloc (.cells #[.slice a3 cs.length c3, .int .i64 r, .int .i64 i, .slice a4 ks.length c4] 26)) ks (.slice a4 ks.length c4)) := Lib.hid ⟨hk3.kept (below_alloc _ _), RepK.kept (below_alloc _ _) hk4⟩
    have d0 : (w3.alloc (.cells #[.slice a3 cs.length c3, .int .i64 r, .int .i64 i, .slice a4 ks.length c4] 26)).cell? ⟨w1.heap.size, 0, none⟩ = some (.slice a1 cs.length c1) := box_cell HB3.out 0 (by simp)
    have d1 : (w3.alloc (.cells #[.slice a3 cs.length c3, .int .i64 r, .int .i64 i, .slice a4 ks.length c4] 26)).cell? ⟨w1.heap.size, 1, none⟩ = some (.int .i64 r) := box_cell HB3.out 1 (by simp)
    have d2 : (w3.alloc (.cells #[.slice a3 cs.length c3, .int .i64 r, .int .i64 i, .slice a4 ks.length c4] 26)).cell? ⟨w1.heap.size, 2, none⟩ = some (.int .i64 i) := box_cell HB3.out 2 (by simp)
    have d3 : (w3.alloc (.cells #[.slice a3 cs.length c3, .int .i64 r, .int .i64 i, .slice a4 ks.length c4] 26)).cell? ⟨w1.heap.size, 3, none⟩ = some (.slice a2 ks.length c2) := box_cell HB3.out 3 (by simp)
    clear hk3 hk4 hb3
    simp only [DT.kids, DT.rule, DT.idx, fileV] at *
    go_wp2_with fail
    refine (keepFile_any cs cs _ _ r i r i ks ks _ _ _ (HK.out.1.kept (HB3.out.mono (Nat.le_of_eq HZ.out))) HK3.out.1 (HK.out.2.kept (HB3.out.mono (Nat.le_of_eq HZ.out))) HK3.out.2).mono ?_
    rintro e w4 ⟨rfl, hb4⟩
    rw [(sameDs_iff cs cs).2 rfl, (sameD_iff (.node r i ks) (.node r i ks)).2 rfl, Bool.and_self]
    have HB4 := Lib.hid (HBW3.out.trans (hb4.mono HBW3.out.size))
    clear hb4
    go_wp2_with fail
    refine (wakes13 _ (HT.out.below HB4.out)).mono ?_
    rintro e w5 ⟨rfl, hb5⟩
    have HB5 := Lib.hid (HB4.out.trans (hb5.mono HB4.out.size))
    clear hb5
    go_wp2
    go_ret
    exact ⟨rfl, HB5.out⟩
end Go.Proofs.YtfpiogaakblpeaaDoor
