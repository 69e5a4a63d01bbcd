/- Walks of transhiplaw10.wakes, WriteNames. Walks of transhiplaw10.WriteExact, WriteUnlike. -/
import Derived.Test.YtefjgpahgffmfaaDoorSr
import Derived.Test.YtefjgpahgffmfaaDoorRw
namespace Go.Proofs.YtefjgpahgffmfaaDoor
open Go.RowKit

theorem repT_two {w : World} (t : TypeId) {k i j n k' i' j' n' : Int} {l l' : List TT} {v v' : Value} (h : RepT w l v) (h' : RepT w l' v') (h4 : In4 k i j n) (h4' : In4 k' i' j' n') :
    RepT (w.alloc (.cells #[.int .i64 k, .int .i64 i, .int .i64 j, .int .i64 n, v, .int .i64 k', .int .i64 i', .int .i64 j', .int .i64 n', v'] t)) [.node k i j n l, .node k' i' j' n' l'] (.slice (some ⟨w.heap.size, 0, none⟩) 2 2) := by
  have hh := new_heap w #[.int .i64 k, .int .i64 i, .int .i64 j, .int .i64 n, v, .int .i64 k', .int .i64 i', .int .i64 j', .int .i64 n', v'] t
  have hc := fun x => Lib.cell_of_heap hh x
  refine RepT.row w.heap.size 0 2 [.node k i j n l, .node k' i' j' n' l'] (fun x => if x = 0 then v else v') (by simp [maxLen]) (by simp) (fun x k1 i1 j1 n1 l1 hx => ?_) (fun x k1 i1 j1 n1 l1 hx => ?_)
  · match x, hx with
    | 0, hx =>
      simp at hx
      obtain ⟨rfl, rfl, rfl, rfl, rfl⟩ := hx
      exact ⟨hc 0, hc 1, hc 2, hc 3, hc 4, h4⟩
    | 1, hx =>
      simp at hx
      obtain ⟨rfl, rfl, rfl, rfl, rfl⟩ := hx
      exact ⟨hc 5, hc 6, hc 7, hc 8, hc 9, h4'⟩
    | x + 2, hx => simp at hx
  · match x, hx with
    | 0, hx =>
      simp at hx
      obtain ⟨rfl, rfl, rfl, rfl, rfl⟩ := hx
      exact h.kept (below_alloc _ _)
    | 1, hx =>
      simp at hx
      obtain ⟨rfl, rfl, rfl, rfl, rfl⟩ := hx
      exact h'.kept (below_alloc _ _)
    | x + 2, hx => simp at hx
theorem in4_small {k i j n : Int} (h : -1000 ≤ k ∧ k ≤ 1000 ∧ -1000 ≤ i ∧ i ≤ 1000 ∧ -1000 ≤ j ∧ j ≤ 1000 ∧ -1000 ≤ n ∧ n ≤ 1000) : In4 k i j n := by
  obtain ⟨a, b, c, d, e, f, g, x⟩ := h
  exact ⟨⟨by omega, by omega⟩, ⟨by omega, by omega⟩, ⟨by omega, by omega⟩, ⟨by omega, by omega⟩⟩
def sampleKs : List TT := [.node 1 4 0 0 [], .node 15 0 0 0 [.node 2 0 0 0 [], .node 2 1 0 0 []]]
theorem sample1 : writeW (.node 14 0 0 0 sampleKs) 1 = [40, 76, 97, 109, 32, 118, 49, 32, 40, 115, 111, 114, 116, 32, 52, 41, 32, 40, 65, 112, 112, 32, 118, 49, 32, 118, 48, 41, 41] := by decide +kernel
theorem sample0 : writeW (.node 14 0 0 0 sampleKs) 0 = [] := by decide +kernel
theorem sample_size : sizeT (.node 14 0 0 0 sampleKs) ≤ 1000000 := by decide +kernel
theorem writeW_is (k i j n : Int) (ks : List TT) (v : Value) (m : Int) (w : World) (L : List UInt8) (hL : writeW (.node k i j n ks) m = L) (hrep : RepT w ks v) (h4 : In4 k i j n) (hsz : sizeT (.node k i j n ks) ≤ 1000000) (ht : Tab w) :
    Calls Tryd.prog 15 #[termV k i j n v, .int .i64 m] w fun e w' => e = .returned (.string ⟨L.toArray⟩) ∧ Below w.heap.size w w' := by
  rw [← hL]; exact writeW_any k i j n ks v m w hrep h4 hsz ht
theorem names2 : textRow (namesL 2) = [.string ⟨#[118, 48]⟩, .string ⟨#[118, 49]⟩] := by
  have : namesL 2 = [[118, 48], [118, 49]] := by decide +kernel
  rw [this]; rfl

set_option maxRecDepth 100000 in
set_option maxHeartbeats 4000000 in
theorem wakes10 (w : World) (ht : Tab w) :
    Calls Tryd.prog 17 #[] w fun e w' => e = .returned (.bool true) ∧ Below w.heap.size w w' := by
  have HT := Lib.hid ht
  clear ht
  obtain ⟨wc, hwc⟩ : ∃ wc, (((w.alloc (.cells #[.int .i64 2, .int .i64 0, .int .i64 0, .int .i64 0, .slice none 0 0, .int .i64 2, .int .i64 1, .int .i64 0, .int .i64 0, .slice none 0 0] 24)).alloc (.cells #[.int .i64 1, .int .i64 4, .int .i64 0, .int .i64 0, .slice none 0 0, .int .i64 15, .int .i64 0, .int .i64 0, .int .i64 0, .slice (some ⟨w.heap.size, 0, none⟩) 2 2] 24)).alloc (.cells #[.int .i64 14, .int .i64 0, .int .i64 0, .int .i64 0, .slice (some ⟨w.heap.size + 1, 0, none⟩) 2 2] 24)) = wc := ⟨_, rfl⟩
  have HB0 : Hid (Below w.heap.size w wc) := Lib.hid (by rw [← hwc]; exact (below_alloc _ _).trans (((below_alloc _ _).mono (by simp)).trans ((below_alloc _ _).mono (by simp; omega))))
  have HREP : Hid (RepT wc sampleKs (.slice (some ⟨w.heap.size + 1, 0, none⟩) 2 2)) := Lib.hid (by
    rw [← hwc]
    have h1 := repT_two (w := w) 24 (.nil none 0) (.nil none 0) (in4_small (k := 2) (i := 0) (j := 0) (n := 0) (by decide)) (in4_small (k := 2) (i := 1) (j := 0) (n := 0) (by decide))
    have h2 := repT_two 24 (RepT.nil (w := (w.alloc (.cells #[.int .i64 2, .int .i64 0, .int .i64 0, .int .i64 0, .slice none 0 0, .int .i64 2, .int .i64 1, .int .i64 0, .int .i64 0, .slice none 0 0] 24))) none 0) h1 (in4_small (k := 1) (i := 4) (j := 0) (n := 0) (by decide)) (in4_small (k := 15) (i := 0) (j := 0) (n := 0) (by decide))
    have h3 := h2.kept (below_alloc _ (.cells #[.int .i64 14, .int .i64 0, .int .i64 0, .int .i64 0, .slice (some ⟨w.heap.size + 1, 0, none⟩) 2 2] 24))
    have e : (w.alloc (.cells #[.int .i64 2, .int .i64 0, .int .i64 0, .int .i64 0, .slice none 0 0, .int .i64 2, .int .i64 1, .int .i64 0, .int .i64 0, .slice none 0 0] 24)).heap.size = w.heap.size + 1 := by simp
    rw [e] at h3
    exact h3)
  have HC0 : Hid (∀ x : Nat, wc.cell? ⟨w.heap.size + 2, x, none⟩ = #[.int .i64 14, .int .i64 0, .int .i64 0, .int .i64 0, .slice (some ⟨w.heap.size + 1, 0, none⟩) 2 2][x]?) := Lib.hid (fun x => by
    rw [← hwc]
    have e : ((w.alloc (.cells #[.int .i64 2, .int .i64 0, .int .i64 0, .int .i64 0, .slice none 0 0, .int .i64 2, .int .i64 1, .int .i64 0, .int .i64 0, .slice none 0 0] 24)).alloc (.cells #[.int .i64 1, .int .i64 4, .int .i64 0, .int .i64 0, .slice none 0 0, .int .i64 15, .int .i64 0, .int .i64 0, .int .i64 0, .slice (some ⟨w.heap.size, 0, none⟩) 2 2] 24)).heap.size = w.heap.size + 2 := by simp
    have hh := new_heap ((w.alloc (.cells #[.int .i64 2, .int .i64 0, .int .i64 0, .int .i64 0, .slice none 0 0, .int .i64 2, .int .i64 1, .int .i64 0, .int .i64 0, .slice none 0 0] 24)).alloc (.cells #[.int .i64 1, .int .i64 4, .int .i64 0, .int .i64 0, .slice none 0 0, .int .i64 15, .int .i64 0, .int .i64 0, .int .i64 0, .slice (some ⟨w.heap.size, 0, none⟩) 2 2] 24)) #[.int .i64 14, .int .i64 0, .int .i64 0, .int .i64 0, .slice (some ⟨w.heap.size + 1, 0, none⟩) 2 2] 24
    rw [e] at hh
    exact Lib.cell_of_heap hh x)
  have HSZ : Hid (wc.heap.size = w.heap.size + 3) := Lib.hid (by rw [← hwc]; simp)
  have HWC := Lib.hid hwc
  clear hwc
  go_enter Tryd.func17, Tryd.ntmps17
  go_wp2_with fail
  rw [HWC.out]
  refine (wNames_any 2 wc (by omega) (HT.out.below HB0.out)).mono ?_
  rintro e w1 ⟨v, rfl, hb1, hown⟩
  have HB1 := Lib.hid hb1
  rw [names2] at hown
  have HH : Hid (Has w1 1 v 2 [.string ⟨#[118, 48]⟩, .string ⟨#[118, 49]⟩]) := Lib.hid (Has.of_owns hown)
  obtain ⟨g, o, c, rfl, hgl, hcell⟩ : ∃ g o c, v = .slice (some ⟨g, o, none⟩) 2 c ∧ g < w1.heap.size ∧ w1.cell? ⟨g, o + 1, none⟩ = some (.string ⟨#[118, 49]⟩) := by
    rcases HH.out.2 with ⟨_, h0⟩ | ⟨g, o, c, rfl, _, hg, hc⟩
    · omega
    · exact ⟨g, o, c, rfl, hg, hc 1 (by omega)⟩
  have HCE := Lib.hid (And.intro hgl hcell)
  clear hb1 hown HH hgl hcell
  have HBX : Hid (∀ w', Below wc.heap.size wc w' → w'.cell? ⟨w.heap.size + 2, 0, none⟩ = some (.int .i64 14) ∧ w'.cell? ⟨w.heap.size + 2, 1, none⟩ = some (.int .i64 0) ∧ w'.cell? ⟨w.heap.size + 2, 2, none⟩ = some (.int .i64 0) ∧ w'.cell? ⟨w.heap.size + 2, 3, none⟩ = some (.int .i64 0) ∧ w'.cell? ⟨w.heap.size + 2, 4, none⟩ = some (.slice (some ⟨w.heap.size + 1, 0, none⟩) 2 2)) := Lib.hid (fun w' h => ⟨(h.cell (p := ⟨w.heap.size + 2, 0, none⟩) (by rw [HSZ.out]; show w.heap.size + 2 < w.heap.size + 3; omega)).trans (HC0.out 0), (h.cell (p := ⟨w.heap.size + 2, 1, none⟩) (by rw [HSZ.out]; show w.heap.size + 2 < w.heap.size + 3; omega)).trans (HC0.out 1), (h.cell (p := ⟨w.heap.size + 2, 2, none⟩) (by rw [HSZ.out]; show w.heap.size + 2 < w.heap.size + 3; omega)).trans (HC0.out 2), (h.cell (p := ⟨w.heap.size + 2, 3, none⟩) (by rw [HSZ.out]; show w.heap.size + 2 < w.heap.size + 3; omega)).trans (HC0.out 3), (h.cell (p := ⟨w.heap.size + 2, 4, none⟩) (by rw [HSZ.out]; show w.heap.size + 2 < w.heap.size + 3; omega)).trans (HC0.out 4)⟩)
  obtain ⟨c0, c1, c2, c3, c4⟩ := HBX.out _ HB1.out
  go_wp2_with fail
  refine (writeW_is 14 0 0 0 sampleKs _ 1 _ _ sample1 (HREP.out.kept HB1.out) (in4_small (by decide)) sample_size (HT.out.below (HB0.out.trans (HB1.out.mono HB0.out.size)))).mono ?_
  rintro e w2 ⟨rfl, hb2⟩
  have HB2 := Lib.hid (HB1.out.trans (hb2.mono HB1.out.size))
  have hcell2 : w2.cell? ⟨g, o + 1, none⟩ = some (.string ⟨#[118, 49]⟩) := (hb2.cell (p := ⟨g, o + 1, none⟩) HCE.out.1).trans HCE.out.2
  have hsz2 := hb2.size
  clear hb2 c0 c1 c2 c3 c4
  obtain ⟨c0, c1, c2, c3, c4⟩ := HBX.out _ HB2.out
  go_wp2_with fail
  refine (writeW_is 14 0 0 0 sampleKs _ 0 _ _ sample0 (HREP.out.kept HB2.out) (in4_small (by decide)) sample_size (HT.out.below (HB0.out.trans (HB2.out.mono HB0.out.size)))).mono ?_
  rintro e w3 ⟨rfl, hb3⟩
  have HB3 := Lib.hid (HB2.out.trans (hb3.mono HB2.out.size))
  have hcell3 : w3.cell? ⟨g, o + 1, none⟩ = some (.string ⟨#[118, 49]⟩) := (hb3.cell (p := ⟨g, o + 1, none⟩) (by have := HCE.out.1; show g < w2.heap.size; omega)).trans hcell2
  clear hb3 c0 c1 c2 c3 c4 hcell2 hsz2
  go_wp2
  go_ret
  exact ⟨rfl, HB0.out.trans (HB3.out.mono HB0.out.size)⟩

set_option maxRecDepth 100000 in
set_option maxHeartbeats 4000000 in
theorem writeNames_walk (n : Int) (w : World) (ht : Tab w) :
    Calls Tryd.prog 5 #[.int .i64 n] w fun e w' => e = .returned (.bool true) ∧ Below w.heap.size w w' := by
  have HT := Lib.hid ht
  clear ht
  by_cases hA : 5000 < n ∧ n ≤ 1000000
  · have g1 : decide (5000 < n) = true := by simp; omega
    have g2 : decide (n ≤ 1000000) = true := by simp; omega
    clear hA
    go_enter Tryd.func5, Tryd.ntmps5
    go_wp2
    go_ret
    exact ⟨rfl, Below.refl _ _⟩
  by_cases hB : n < 0 ∨ 1000000 < n
  · have hq : decide (n < 0) = true ∧ decide (5000 < n) = false ∨ decide (n < 0) = false ∧ decide (5000 < n) = true ∧ decide (n ≤ 1000000) = false ∧ decide (1000000 < n) = true := by
      by_cases h0 : n < 0
      · exact .inl ⟨by simp [h0], by simp; omega⟩
      · exact .inr ⟨by simp [h0], by simp; omega, by simp; omega, by simp; omega⟩
    have HB := Lib.hid hB
    clear hA hB
    rcases hq with ⟨g1, g2⟩ | ⟨g1, g2, g3, g4⟩
    all_goals
      go_enter Tryd.func5, Tryd.ntmps5
      go_wp2_with fail
      refine (wNames_none n _ HB.out).mono ?_
      rintro e w1 ⟨rfl, rfl⟩
      go_wp2_with fail
      refine (wakes10 _ HT.out).mono ?_
      rintro e w2 ⟨rfl, hb2⟩
      have HB2 := Lib.hid hb2
      clear hb2
      go_wp2
      go_ret
      exact ⟨rfl, HB2.out⟩
  · obtain ⟨q, rfl⟩ := Int.eq_ofNat_of_zero_le (a := n) (by omega)
    have hq : q ≤ 5000 := by omega
    have g1 : decide ((q : Int) < 0) = false := by simp
    have g2 : decide (1000000 < (q : Int)) = false := by simp; omega
    have g3 : decide (5000 < (q : Int)) = false := by simp; omega
    clear hA hB
    go_enter Tryd.func5, Tryd.ntmps5
    go_wp2_with fail
    refine (wNames_any q _ (by omega) HT.out).mono ?_
    rintro e w1 ⟨v, rfl, hb1, hown⟩
    have HB1 := Lib.hid hb1
    have HH : Hid (Has w1 1 v q (textRow (namesL q))) := Lib.hid (Has.of_owns hown)
    obtain ⟨a, c, rfl⟩ : ∃ a c, v = .slice a q c := by
      rcases HH.out.2 with ⟨rfl, h0⟩ | ⟨g, o, c, rfl, _⟩
      · exact ⟨none, 0, by rw [h0]⟩
      · exact ⟨_, c, rfl⟩
    clear hb1 hown
    go_wp2_with fail
    refine (vNames_any q _ (by omega)).mono ?_
    rintro e w2 ⟨v2, rfl, hb2, hown2⟩
    have HB2 := Lib.hid (HB1.out.trans (hb2.mono HB1.out.size))
    have HH2 : Hid (Has w2 1 v2 q (textRow (namesL q))) := Lib.hid (Has.of_owns hown2)
    have HH1 : Hid (Has w2 1 (.slice a q c) q (textRow (namesL q))) := Lib.hid (HH.out.below hb2)
    clear hb2 hown2
    go_wp2_with fail
    have hts := texts_same (namesL q) (.slice a q c) v2 w2 (by rw [namesL_len]; exact HH1.out) (by rw [namesL_len]; exact HH2.out) (by rw [namesL_len]; omega)
    refine hts.mono ?_
    rintro e w3 ⟨rfl, hb3⟩
    have HB3 := Lib.hid (HB2.out.trans (hb3.mono HB2.out.size))
    clear hb3 hts
    go_wp2_with fail
    refine (wakes10 _ (HT.out.below HB3.out)).mono ?_
    rintro e w4 ⟨rfl, hb4⟩
    have HB4 := Lib.hid (HB3.out.trans (hb4.mono HB3.out.size))
    clear hb4
    go_wp2
    go_ret
    exact ⟨rfl, HB4.out⟩
end Go.Proofs.YtefjgpahgffmfaaDoor

namespace Go.Proofs.YtefjgpahgffmfaaDoor
open Go.RowKit

set_option maxRecDepth 100000 in
set_option maxHeartbeats 4000000 in
theorem writeExact_walk (k i j n : Int) (ks : List TT) (v : Value) (m : Int) (w : World) (hrep : RepT w ks v) (h4 : In4 k i j n) (ht : Tab w) :
    Calls Tryd.prog 3 #[termV k i j n v, .int .i64 m] w fun e w' => e = .returned (.bool true) ∧ Below w.heap.size w w' := by
  obtain ⟨hkl, a, c, rfl⟩ := hrep.form
  clear hkl
  have HT := Lib.hid ht
  have HR := Lib.hid (And.intro hrep h4)
  clear hrep h4 ht
  unfold termV
  have HB0 : Hid (Below (w.heap.size + 1) (w.alloc (.cells #[.int .i64 k, .int .i64 i, .int .i64 j, .int .i64 n, .slice a ks.length c] 24)) (w.alloc (.cells #[.int .i64 k, .int .i64 i, .int .i64 j, .int .i64 n, .slice a ks.length c] 24))) := Lib.hid (Below.refl _ _)
  go_enter Tryd.func3, Tryd.ntmps3
  go_wp2_with fail
  refine (great_any k i j n ks _ 300 _ (HR.out.1.kept (below_alloc _ _)) (by omega) (by omega)).mono ?_
  rintro e w1 ⟨rfl, hb1⟩
  have HB1 := Lib.hid (HB0.out.trans (hb1.mono (Nat.le_of_eq (by simp))))
  clear hb1
  cases hg : decide (300 < weigh (.node k i j n ks) 300 200)
  case true =>
    clear hg
    go_wp2
    go_ret
    exact ⟨rfl, below_of_box HB1.out⟩
  have HSZ : Hid (sizeT (.node k i j n ks) ≤ 1000000) := Lib.hid (by
    have h1 : weigh (.node k i j n ks) 300 200 ≤ 300 := by simpa using hg
    have := weigh_size _ _ _ h1
    omega)
  clear hg
  obtain ⟨σ, f, hne, hf, hcov⟩ := fam (w.heap.size + 1) w1 (by have := HB1.out.size; simpa using this)
  have HF : Hid (∀ s, Below (w.heap.size + 1) (w.alloc (.cells #[.int .i64 k, .int .i64 i, .int .i64 j, .int .i64 n, .slice a ks.length c] 24)) (f s)) := Lib.hid (fun s => HB1.out.trans (hf s).1)
  have hc0 : ∀ s, (f s).cell? ⟨w.heap.size, 0, none⟩ = some (.int .i64 k) := fun s => box_cell (HF.out s) 0 (by simp)
  have hc1 : ∀ s, (f s).cell? ⟨w.heap.size, 1, none⟩ = some (.int .i64 i) := fun s => box_cell (HF.out s) 1 (by simp)
  have hc2 : ∀ s, (f s).cell? ⟨w.heap.size, 2, none⟩ = some (.int .i64 j) := fun s => box_cell (HF.out s) 2 (by simp)
  have hc3 : ∀ s, (f s).cell? ⟨w.heap.size, 3, none⟩ = some (.int .i64 n) := fun s => box_cell (HF.out s) 3 (by simp)
  have hc4 : ∀ s, (f s).cell? ⟨w.heap.size, 4, none⟩ = some (.slice a ks.length c) := fun s => box_cell (HF.out s) 4 (by simp)
  have HBF : Hid (∀ s, Below w.heap.size w (f s)) := Lib.hid (fun s => below_of_box (HF.out s))
  have HFF := Lib.hid hf
  have HCOV := Lib.hid hcov
  clear hf hcov
  go_wp2_with fail
  refine wp_region_fam_lit f (by kernel_rfl) (by kernel_rfl) (HCOV.out _ (Below.refl _ _).drew) ?_
  repeat (go_big_quiet_step ((first
    | (go_at_call 15; exact calls_fam HFF.out HCOV.out (writeW_any k i j n ks _ m _ (HR.out.1.kept (HBF.out _)) HR.out.2 HSZ.out (HT.out.below (HBF.out _))))
    | (go_at_call 16; exact calls_fam HFF.out HCOV.out (rWriteW_any k i j n ks _ m _ (HR.out.1.kept (HBF.out _)) HR.out.2 HSZ.out))
    | (go_at_call 17; exact calls_fam HFF.out HCOV.out (wakes10 _ (HT.out.below (HBF.out _)))))))
  refine wpQuiet_nil ?_
  rintro _ ⟨s, rfl⟩
  go_wp2
  go_ret
  exact ⟨rfl, HBF.out s⟩

theorem writeW_eq {a b : TT} {m : Int} (ha : rightT a 0 = true) (hb : rightT b 0 = true) (fa : decide (m < freeOf a) = false) (fb : decide (m < freeOf b) = false) (hm : decide (1000000 < m) = false) : (writeW a m == writeW b m) = sameT a b := by
  have f1 : ¬ m < freeOf a := by simpa using fa
  have f2 : ¬ m < freeOf b := by simpa using fb
  have f3 : m ≤ 1000000 := by simpa using hm
  have h0 : 0 ≤ m := by
    have := freeR_in a 0 ha
    rw [freeOf_R ha] at f1
    omega
  rw [writeW_in h0 f3 ha f1, writeW_in h0 f3 hb f2, Bool.eq_iff_iff, sameT_iff]
  simp only [beq_iff_eq]
  constructor
  · intro h; exact writeT_inj ha hb h
  · intro h; rw [h]

set_option maxRecDepth 100000 in
set_option maxHeartbeats 4000000 in
theorem writeUnlike_walk (k i j n : Int) (ks : List TT) (v : Value) (k' i' j' n' : Int) (ks' : List TT) (v' : Value) (m : Int) (w : World) (hrep : RepT w ks v) (h4 : In4 k i j n) (hrep' : RepT w ks' v') (h4' : In4 k' i' j' n') (ht : Tab w) :
    Calls Tryd.prog 4 #[termV k i j n v, termV k' i' j' n' v', .int .i64 m] w fun e w' => e = .returned (.bool true) ∧ Below w.heap.size w w' := by
  obtain ⟨hkl, a, c, rfl⟩ := hrep.form
  obtain ⟨hkl', a', c', rfl⟩ := hrep'.form
  clear hkl hkl'
  have HT := Lib.hid ht
  have HR := Lib.hid (And.intro hrep h4)
  have HR' := Lib.hid (And.intro hrep' h4')
  clear hrep h4 hrep' h4' ht
  unfold termV
  have hx0 : ((w.alloc (.cells #[.int .i64 k, .int .i64 i, .int .i64 j, .int .i64 n, .slice a ks.length c] 24)).alloc (.cells #[.int .i64 k', .int .i64 i', .int .i64 j', .int .i64 n', .slice a' ks'.length c'] 24)).heap[w.heap.size]? = some (.cells #[.int .i64 k, .int .i64 i, .int .i64 j, .int .i64 n, .slice a ks.length c] 24 (0, 0)) := (Lib.alloc_old _ _ _ (by simp)).trans (new_heap _ _ _)
  have hx1 : ((w.alloc (.cells #[.int .i64 k, .int .i64 i, .int .i64 j, .int .i64 n, .slice a ks.length c] 24)).alloc (.cells #[.int .i64 k', .int .i64 i', .int .i64 j', .int .i64 n', .slice a' ks'.length c'] 24)).heap[w.heap.size + 1]? = some (.cells #[.int .i64 k', .int .i64 i', .int .i64 j', .int .i64 n', .slice a' ks'.length c'] 24 (0, 0)) := by
    have := new_heap (w.alloc (.cells #[.int .i64 k, .int .i64 i, .int .i64 j, .int .i64 n, .slice a ks.length c] 24)) #[.int .i64 k', .int .i64 i', .int .i64 j', .int .i64 n', .slice a' ks'.length c'] 24
    simpa using this
  have hbw : Below w.heap.size w ((w.alloc (.cells #[.int .i64 k, .int .i64 i, .int .i64 j, .int .i64 n, .slice a ks.length c] 24)).alloc (.cells #[.int .i64 k', .int .i64 i', .int .i64 j', .int .i64 n', .slice a' ks'.length c'] 24)) := (below_alloc _ _).trans ((below_alloc _ _).mono (by simp))
  have hsz0 : ((w.alloc (.cells #[.int .i64 k, .int .i64 i, .int .i64 j, .int .i64 n, .slice a ks.length c] 24)).alloc (.cells #[.int .i64 k', .int .i64 i', .int .i64 j', .int .i64 n', .slice a' ks'.length c'] 24)).heap.size = w.heap.size + 2 := by simp
  have KEY : Hid (∀ w', Below (w.heap.size + 2) ((w.alloc (.cells #[.int .i64 k, .int .i64 i, .int .i64 j, .int .i64 n, .slice a ks.length c] 24)).alloc (.cells #[.int .i64 k', .int .i64 i', .int .i64 j', .int .i64 n', .slice a' ks'.length c'] 24)) w' → (w'.cell? ⟨w.heap.size, 0, none⟩ = some (.int .i64 k) ∧ w'.cell? ⟨w.heap.size, 1, none⟩ = some (.int .i64 i) ∧ w'.cell? ⟨w.heap.size, 2, none⟩ = some (.int .i64 j) ∧ w'.cell? ⟨w.heap.size, 3, none⟩ = some (.int .i64 n) ∧ w'.cell? ⟨w.heap.size, 4, none⟩ = some (.slice a ks.length c)) ∧ (w'.cell? ⟨w.heap.size + 1, 0, none⟩ = some (.int .i64 k') ∧ w'.cell? ⟨w.heap.size + 1, 1, none⟩ = some (.int .i64 i') ∧ w'.cell? ⟨w.heap.size + 1, 2, none⟩ = some (.int .i64 j') ∧ w'.cell? ⟨w.heap.size + 1, 3, none⟩ = some (.int .i64 n') ∧ w'.cell? ⟨w.heap.size + 1, 4, none⟩ = some (.slice a' ks'.length c')) ∧ Below w.heap.size w w' ∧ w.heap.size + 2 ≤ w'.heap.size) := Lib.hid (fun w' h =>
    ⟨box_cells5 ((h.block _ (by omega)).trans hx0), box_cells5 ((h.block _ (by omega)).trans hx1), hbw.trans (h.mono (by omega)), by have := h.size; rw [hsz0] at this; exact this⟩)
  have HB0 : Hid (Below (w.heap.size + 2) ((w.alloc (.cells #[.int .i64 k, .int .i64 i, .int .i64 j, .int .i64 n, .slice a ks.length c] 24)).alloc (.cells #[.int .i64 k', .int .i64 i', .int .i64 j', .int .i64 n', .slice a' ks'.length c'] 24)) ((w.alloc (.cells #[.int .i64 k, .int .i64 i, .int .i64 j, .int .i64 n, .slice a ks.length c] 24)).alloc (.cells #[.int .i64 k', .int .i64 i', .int .i64 j', .int .i64 n', .slice a' ks'.length c'] 24))) := Lib.hid (Below.refl _ _)
  have HBW0 := Lib.hid hbw
  have HZ0 : Hid (w.heap.size + 2 ≤ ((w.alloc (.cells #[.int .i64 k, .int .i64 i, .int .i64 j, .int .i64 n, .slice a ks.length c] 24)).alloc (.cells #[.int .i64 k', .int .i64 i', .int .i64 j', .int .i64 n', .slice a' ks'.length c'] 24)).heap.size) := Lib.hid (by rw [hsz0]; exact Nat.le_refl _)
  clear hx0 hx1 hbw hsz0
  obtain ⟨⟨x0, x1, x2, x3, x4⟩, ⟨y0, y1, y2, y3, y4⟩, hbw, hsz⟩ := KEY.out ((w.alloc (.cells #[.int .i64 k, .int .i64 i, .int .i64 j, .int .i64 n, .slice a ks.length c] 24)).alloc (.cells #[.int .i64 k', .int .i64 i', .int .i64 j', .int .i64 n', .slice a' ks'.length c'] 24)) HB0.out
  clear hbw hsz
  go_enter Tryd.func4, Tryd.ntmps4
  go_wp2_with fail
  refine (great_any k i j n ks _ 300 _ (HR.out.1.kept HBW0.out) (by omega) (by omega)).mono ?_
  rintro e w1 ⟨rfl, hb⟩
  have HB1 := Lib.hid (HB0.out.trans (hb.mono HZ0.out))
  clear hb x0 x1 x2 x3 x4 y0 y1 y2 y3 y4
  obtain ⟨⟨x0, x1, x2, x3, x4⟩, ⟨y0, y1, y2, y3, y4⟩, hbw, hsz⟩ := KEY.out w1 HB1.out
  have HBW1 := Lib.hid hbw
  have HZ1 := Lib.hid hsz
  clear hbw hsz
  cases hg : decide (300 < weigh (.node k i j n ks) 300 200)
  case true =>
    clear hg
    go_wp2
    go_ret
    exact ⟨rfl, HBW1.out⟩
  have HSZ : Hid (sizeT (.node k i j n ks) ≤ 1000000) := Lib.hid (by
    have h1 : weigh (.node k i j n ks) 300 200 ≤ 300 := by simpa using hg
    have := weigh_size _ _ _ h1
    omega)
  clear hg
  go_wp2_with fail
  refine (great_any k' i' j' n' ks' _ 300 _ (HR'.out.1.kept HBW1.out) (by omega) (by omega)).mono ?_
  rintro e w2 ⟨rfl, hb⟩
  have HB2 := Lib.hid (HB1.out.trans (hb.mono HZ1.out))
  clear hb x0 x1 x2 x3 x4 y0 y1 y2 y3 y4
  obtain ⟨⟨x0, x1, x2, x3, x4⟩, ⟨y0, y1, y2, y3, y4⟩, hbw, hsz⟩ := KEY.out w2 HB2.out
  have HBW2 := Lib.hid hbw
  have HZ2 := Lib.hid hsz
  clear hbw hsz
  cases hg : decide (300 < weigh (.node k' i' j' n' ks') 300 200)
  case true =>
    clear hg
    go_wp2
    go_ret
    exact ⟨rfl, HBW2.out⟩
  have HSZ' : Hid (sizeT (.node k' i' j' n' ks') ≤ 1000000) := Lib.hid (by
    have h1 : weigh (.node k' i' j' n' ks') 300 200 ≤ 300 := by simpa using hg
    have := weigh_size _ _ _ h1
    omega)
  clear hg
  go_wp2_with fail
  refine (rright04_any k i j n ks _ _ (HR.out.1.kept HBW2.out)).mono ?_
  rintro e w3 ⟨rfl, hb⟩
  have HB3 := Lib.hid (HB2.out.trans (hb.mono HZ2.out))
  clear hb x0 x1 x2 x3 x4 y0 y1 y2 y3 y4
  obtain ⟨⟨x0, x1, x2, x3, x4⟩, ⟨y0, y1, y2, y3, y4⟩, hbw, hsz⟩ := KEY.out w3 HB3.out
  have HBW3 := Lib.hid hbw
  have HZ3 := Lib.hid hsz
  clear hbw hsz
  cases hq1 : rightT (.node k i j n ks) 0
  case false =>
    clear hq1
    go_wp2
    go_ret
    exact ⟨rfl, HBW3.out⟩
  have HQ1 := Lib.hid hq1
  clear hq1
  go_wp2_with fail
  refine (rright04_any k' i' j' n' ks' _ _ (HR'.out.1.kept HBW3.out)).mono ?_
  rintro e w4 ⟨rfl, hb⟩
  have HB4 := Lib.hid (HB3.out.trans (hb.mono HZ3.out))
  clear hb x0 x1 x2 x3 x4 y0 y1 y2 y3 y4
  obtain ⟨⟨x0, x1, x2, x3, x4⟩, ⟨y0, y1, y2, y3, y4⟩, hbw, hsz⟩ := KEY.out w4 HB4.out
  have HBW4 := Lib.hid hbw
  have HZ4 := Lib.hid hsz
  clear hbw hsz
  cases hq2 : rightT (.node k' i' j' n' ks') 0
  case false =>
    clear hq2
    go_wp2
    go_ret
    exact ⟨rfl, HBW4.out⟩
  have HQ2 := Lib.hid hq2
  clear hq2
  go_wp2_with fail
  refine (rFree04_any k i j n ks _ _ (HR.out.1.kept HBW4.out)).mono ?_
  rintro e w5 ⟨rfl, hb⟩
  have HB5 := Lib.hid (HB4.out.trans (hb.mono HZ4.out))
  clear hb x0 x1 x2 x3 x4 y0 y1 y2 y3 y4
  obtain ⟨⟨x0, x1, x2, x3, x4⟩, ⟨y0, y1, y2, y3, y4⟩, hbw, hsz⟩ := KEY.out w5 HB5.out
  have HBW5 := Lib.hid hbw
  have HZ5 := Lib.hid hsz
  clear hbw hsz
  rcases Bool.eq_false_or_eq_true (decide (m < freeOf (.node k i j n ks))) with hf1 | hf1
  · go_wp2
    go_ret
    exact ⟨rfl, HBW5.out⟩
  have HF1 := Lib.hid hf1
  go_wp2_with fail
  refine (rFree04_any k' i' j' n' ks' _ _ (HR'.out.1.kept HBW5.out)).mono ?_
  rintro e w6 ⟨rfl, hb⟩
  have HB6 := Lib.hid (HB5.out.trans (hb.mono HZ5.out))
  clear hb x0 x1 x2 x3 x4 y0 y1 y2 y3 y4
  obtain ⟨⟨x0, x1, x2, x3, x4⟩, ⟨y0, y1, y2, y3, y4⟩, hbw, hsz⟩ := KEY.out w6 HB6.out
  have HBW6 := Lib.hid hbw
  have HZ6 := Lib.hid hsz
  clear hbw hsz
  rcases Bool.eq_false_or_eq_true (decide (m < freeOf (.node k' i' j' n' ks'))) with hf2 | hf2
  · go_wp2
    go_ret
    exact ⟨rfl, HBW6.out⟩
  have HF2 := Lib.hid hf2
  rcases Bool.eq_false_or_eq_true (decide (1000000 < m)) with hm | hm
  · go_wp2
    go_ret
    exact ⟨rfl, HBW6.out⟩
  have heq := writeW_eq HQ1.out HQ2.out HF1.out HF2.out hm
  clear x0 x1 x2 x3 x4 y0 y1 y2 y3 y4
  obtain ⟨σ, f, hne, hf, hcov⟩ := fam (w.heap.size + 2) w6 HZ6.out
  have HF : Hid (∀ s, Below (w.heap.size + 2) ((w.alloc (.cells #[.int .i64 k, .int .i64 i, .int .i64 j, .int .i64 n, .slice a ks.length c] 24)).alloc (.cells #[.int .i64 k', .int .i64 i', .int .i64 j', .int .i64 n', .slice a' ks'.length c'] 24)) (f s)) := Lib.hid (fun s => HB6.out.trans (hf s).1)
  have hc0 := fun s => (KEY.out _ (HF.out s)).1.1
  have hc1 := fun s => (KEY.out _ (HF.out s)).1.2.1
  have hc2 := fun s => (KEY.out _ (HF.out s)).1.2.2.1
  have hc3 := fun s => (KEY.out _ (HF.out s)).1.2.2.2.1
  have hc4 := fun s => (KEY.out _ (HF.out s)).1.2.2.2.2
  have hd0 := fun s => (KEY.out _ (HF.out s)).2.1.1
  have hd1 := fun s => (KEY.out _ (HF.out s)).2.1.2.1
  have hd2 := fun s => (KEY.out _ (HF.out s)).2.1.2.2.1
  have hd3 := fun s => (KEY.out _ (HF.out s)).2.1.2.2.2.1
  have hd4 := fun s => (KEY.out _ (HF.out s)).2.1.2.2.2.2
  have HBF : Hid (∀ s, Below w.heap.size w (f s)) := Lib.hid (fun s => (KEY.out _ (HF.out s)).2.2.1)
  have HFF := Lib.hid hf
  have HCOV := Lib.hid hcov
  clear hf hcov
  go_wp2_with fail
  refine wp_region_fam_lit f (by kernel_rfl) (by kernel_rfl) (HCOV.out _ (Below.refl _ _).drew) ?_
  repeat (go_big_quiet_step ((first
    | (go_at_call_of 15 (Value.agg #[.int .i64 k, .int .i64 i, .int .i64 j, .int .i64 n, .slice a ks.length c]); exact calls_fam HFF.out HCOV.out (writeW_any k i j n ks _ m _ (HR.out.1.kept (HBF.out _)) HR.out.2 HSZ.out (HT.out.below (HBF.out _))))
    | (go_at_call 15; exact calls_fam HFF.out HCOV.out (writeW_any k' i' j' n' ks' _ m _ (HR'.out.1.kept (HBF.out _)) HR'.out.2 HSZ'.out (HT.out.below (HBF.out _))))
    | (go_at_call 20; exact calls_fam HFF.out HCOV.out (same_any k i j n k' i' j' n' ks ks' _ _ _ (HR.out.1.kept (HBF.out _)) (HR'.out.1.kept (HBF.out _))))
    | (go_at_call 17; exact calls_fam HFF.out HCOV.out (wakes10 _ (HT.out.below (HBF.out _)))))))
  refine wpQuiet_nil ?_
  rintro _ ⟨s, rfl⟩
  go_wp2
  go_ret
  exact ⟨rfl, HBF.out s⟩
end Go.Proofs.YtefjgpahgffmfaaDoor
