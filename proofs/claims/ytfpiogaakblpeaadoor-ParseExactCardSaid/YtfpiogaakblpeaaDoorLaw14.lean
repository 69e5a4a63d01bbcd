/- Walks of transhiplaw14: wakes, ShowExact, ShowUnlike. -/
import Derived.Test.YtfpiogaakblpeaaDoorRShow
import Derived.Test.YtfpiogaakblpeaaDoorKeep
namespace Go.Proofs.YtfpiogaakblpeaaDoor
open Go.RowKit

theorem repK_one (w : World) (r i : Int) (t : TypeId) (hr : In64 r) (hi : In64 i) : RepK (w.alloc (.cells #[.int .i64 r, .int .i64 i, .slice none 0 0] t)) [.node r i []] (.slice (some ⟨w.heap.size, 0, none⟩) 1 1) := by
  refine RepK.row w.heap.size 0 1 [.node r i []] (fun _ => .slice none 0 0) (by simp [maxLen]) (by simp) (fun j r' i' l h => ?_) (fun j r' i' l h => ?_)
  · cases j with
    | zero =>
      simp at h
      obtain ⟨rfl, rfl, rfl⟩ := h
      have hh := heap_new w #[.int .i64 r, .int .i64 i, .slice none 0 0] t
      obtain ⟨a, b, c⟩ := box_cells hh
      exact ⟨a, b, c, hr, hi⟩
    | succ j => simp at h
  · cases j with
    | zero =>
      simp at h
      obtain ⟨rfl, rfl, rfl⟩ := h
      exact .nil _ _
    | succ j => simp at h

theorem in64_small {n : Int} (h : -1000 ≤ n) (h2 : n ≤ 1000) : In64 n := ⟨by omega, by omega⟩
theorem showFile_is (cs : List DT) (cv : Value) (r i : Int) (ks : List DT) (v : Value) (w : World) (L : List UInt8) (hL : showFT cs (.node r i ks) = L) (hcrep : RepK w cs cv) (hrep : RepK w ks v) (hr : In64 r) (hi : In64 i) (ht : Tab w) (hlen : (showF cs (.node r i ks)).length ≤ 70368744177664) :
    Calls Tryd.prog 15 #[fileV cv r i v] w fun e w' => e = .returned (.string ⟨L.toArray⟩) ∧ Below w.heap.size w w' := by
  rw [← hL]; exact showFile_any cs cv r i ks v w hcrep hrep hr hi ht hlen
theorem showDeriv_is (r i : Int) (ks : List DT) (v : Value) (w : World) (L : List UInt8) (hL : showT (.node r i ks) = L) (hrep : RepK w ks v) (hr : In64 r) (hi : In64 i) (ht : Tab w) (hlen : (showD (.node r i ks)).length ≤ 70368744177664) :
    Calls Tryd.prog 13 #[derivV r i v] w fun e w' => e = .returned (.string ⟨L.toArray⟩) ∧ Below w.heap.size w w' := by
  rw [← hL]; exact showDeriv_any r i ks v w hrep hr hi ht hlen

theorem show_sample : showFT [.node 1 0 []] (.node 2 0 []) = [40, 102, 105, 108, 101, 32, 40, 40, 115, 111, 114, 116, 32, 48, 41, 41, 32, 40, 118, 97, 114, 32, 48, 41, 41, 10] := by decide +kernel
theorem show_sample_len : (showF [.node 1 0 []] (.node 2 0 [])).length ≤ 70368744177664 := by decide +kernel
theorem show_sample2 : showT (.node 0 0 []) = [] := by decide +kernel
theorem show_sample2_len : (showD (.node 0 0 [])).length ≤ 70368744177664 := by decide +kernel

set_option maxRecDepth 100000 in
set_option maxHeartbeats 1000000 in
theorem wakes14 (w : World) (ht : Tab w) :
    Calls Tryd.prog 17 #[] w fun e w' => e = .returned (.bool true) ∧ Below w.heap.size w w' := by
  have HT := Lib.hid ht
  clear ht
  have hb0 : Below w.heap.size w ((w.alloc (.cells #[.int .i64 1, .int .i64 0, .slice none 0 0] 24)).alloc (.cells #[.slice (some ⟨w.heap.size, 0, none⟩) 1 1, .int .i64 2, .int .i64 0, .slice none 0 0] 26)) :=
    (below_alloc _ _).trans ((below_alloc _ _).mono (by simp))
  have HB0 := Lib.hid hb0
  have HREP := Lib.hid ((repK_one w 1 0 24 (in64_small (by decide) (by decide)) (in64_small (by decide) (by decide))).kept (below_alloc _ (.cells #[.slice (some ⟨w.heap.size, 0, none⟩) 1 1, .int .i64 2, .int .i64 0, .slice none 0 0] 26)))
  clear hb0
  go_enter Tryd.func17, Tryd.ntmps17
  go_wp2_with fail
  refine (showFile_is [.node 1 0 []] _ 2 0 [] _ _ _ show_sample HREP.out (.nil _ _) (in64_small (by decide) (by decide)) (in64_small (by decide) (by decide)) (HT.out.below HB0.out) show_sample_len).mono ?_
  rintro e w1 ⟨rfl, hb1⟩
  have HB1 := Lib.hid (HB0.out.trans (hb1.mono HB0.out.size))
  clear hb1
  go_wp2_with fail
  refine (showDeriv_is 0 0 [] _ _ _ show_sample2 (.nil _ _) (in64_small (by decide) (by decide)) (in64_small (by decide) (by decide)) (HT.out.below HB1.out) show_sample2_len).mono ?_
  rintro e w2 ⟨rfl, hb2⟩
  have HB2 := Lib.hid (HB1.out.trans (hb2.mono HB1.out.size))
  clear hb2
  go_wp2
  go_ret
  exact ⟨rfl, HB2.out⟩
end Go.Proofs.YtfpiogaakblpeaaDoor
