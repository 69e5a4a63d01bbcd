/- Walks of transhiplaw14.ShowExact and ShowUnlike. -/
import Derived.Test.YtfpiogaakblpeaaDoorLaw14
import Derived.Test.YtfpiogaakblpeaaDoorBound
import Derived.Test.YtfpiogaakblpeaaDoorParB
namespace Go.Proofs.YtfpiogaakblpeaaDoor
open Go.RowKit

set_option maxRecDepth 100000 in
set_option maxHeartbeats 4000000 in
theorem showExact_walk (cs : List DT) (cv : Value) (r i : Int) (ks : List DT) (v : Value) (w : World) (hcrep : RepK w cs cv) (hrep : RepK w ks v) (hr : In64 r) (hi : In64 i) (ht : Tab w) :
    Calls Tryd.prog 3 #[fileV cv r i v] w fun e w' => e = .returned (.bool true) ∧ Below w.heap.size w w' := by
  have h64c := hcrep.in64
  have h64d : in64D (.node r i ks) := ⟨hr, hi, hrep.in64⟩
  obtain ⟨hkl, a, c, rfl⟩ := hrep.form
  obtain ⟨hcl, a2, c2, rfl⟩ := hcrep.form
  clear hkl hcl
  have HT := Lib.hid ht
  have HR := Lib.hid (And.intro hrep (And.intro hr hi))
  have HC := Lib.hid hcrep
  clear hrep hr hi hcrep ht
  unfold fileV
  have hb0 : Below (w.heap.size + 1) (w.alloc (.cells #[.slice a2 cs.length c2, .int .i64 r, .int .i64 i, .slice a ks.length c] 26)) (w.alloc (.cells #[.slice a2 cs.length c2, .int .i64 r, .int .i64 i, .slice a ks.length c] 26)) := Below.refl _ _
  have HB0 := Lib.hid hb0
  clear hb0
  go_enter Tryd.func3, Tryd.ntmps3
  go_wp2_with fail
  refine (greatFile_any cs _ r i ks _ 600 _ (HC.out.kept (below_alloc _ _)) (HR.out.1.kept (below_alloc _ _)) (by omega) (by omega)).mono ?_
  rintro e w1 ⟨rfl, hb1⟩
  have HB1 := Lib.hid (HB0.out.trans (hb1.mono (Nat.le_of_eq (by simp))))
  clear hb1
  cases hg : greatF cs (.node r i ks) 600
  · have hn := greatF_nodes hg
    have hl1 := showF_le h64c h64d
    have hl2 := showD_le _ h64d
    have HL : Hid ((showF cs (.node r i ks)).length ≤ 70368744177664 ∧ (showD (.node r i ks)).length ≤ 70368744177664) := Lib.hid ⟨by omega, by omega⟩
    clear hn hl1 hl2 hg h64c h64d
    have HB1s := Lib.hid HB1.out.size
    obtain ⟨σ, f, hne, hf, hcov⟩ := fam (w.heap.size + 1) w1 (by have := HB1.out.size; simpa using this)
    have HF : Hid (∀ s, Below (w.heap.size + 1) (w.alloc (.cells #[.slice a2 cs.length c2, .int .i64 r, .int .i64 i, .slice a ks.length c] 26)) (f s)) := Lib.hid (fun s => HB1.out.trans (hf s).1)
    have hc0 : ∀ s, (f s).cell? ⟨w.heap.size, 0, none⟩ = some (.slice a2 cs.length c2) := fun s => box_cell (HF.out s) 0 (by simp)
    have hc1 : ∀ s, (f s).cell? ⟨w.heap.size, 1, none⟩ = some (.int .i64 r) := fun s => box_cell (HF.out s) 1 (by simp)
    have hc2 : ∀ s, (f s).cell? ⟨w.heap.size, 2, none⟩ = some (.int .i64 i) := fun s => box_cell (HF.out s) 2 (by simp)
    have hc3 : ∀ s, (f s).cell? ⟨w.heap.size, 3, none⟩ = some (.slice a ks.length c) := fun s => box_cell (HF.out s) 3 (by simp)
    have HBF : Hid (∀ s, Below w.heap.size w (f s)) := Lib.hid (fun s => below_of_box (HF.out s))
    have HFF := Lib.hid hf
    have HCOV := Lib.hid hcov
    have d0 : w1.cell? ⟨w.heap.size, 0, none⟩ = some (.slice a2 cs.length c2) := box_cell HB1.out 0 (by simp)
    clear hf hcov d0
    go_wp2_with fail
    refine wp_region_fam_lit f (by kernel_rfl) (by kernel_rfl) (HCOV.out _ (Below.refl _ _).drew) ?_
    repeat (go_big_quiet_step ((first
      | (go_at_call 13; exact calls_fam HFF.out HCOV.out (showDeriv_any r i ks _ _ (HR.out.1.kept (HBF.out _)) HR.out.2.1 HR.out.2.2 (HT.out.below (HBF.out _)) HL.out.2))
      | (go_at_call 14; exact calls_fam HFF.out HCOV.out (rShow_any r i ks _ _ (HR.out.1.kept (HBF.out _)) HR.out.2.1 HR.out.2.2 HL.out.2))
      | (go_at_call 15; exact calls_fam HFF.out HCOV.out (showFile_any cs _ r i ks _ _ (HC.out.kept (HBF.out _)) (HR.out.1.kept (HBF.out _)) HR.out.2.1 HR.out.2.2 (HT.out.below (HBF.out _)) HL.out.1))
      | (go_at_call 16; exact calls_fam HFF.out HCOV.out (rShowFile_any cs _ r i ks _ _ (HC.out.kept (HBF.out _)) (HR.out.1.kept (HBF.out _)) HR.out.2.1 HR.out.2.2 HL.out.1))
      | (go_at_call 17; exact calls_fam HFF.out HCOV.out (wakes14 _ (HT.out.below (HBF.out _)))))))
    refine wpQuiet_nil ?_
    rintro _ ⟨s, rfl⟩
    go_wp2
    go_ret
    exact ⟨rfl, HBF.out s⟩
  · clear hg
    go_wp2
    go_ret
    exact ⟨rfl, below_of_box HB1.out⟩

theorem showT_eq {a b : DT} (ha : rightD a = true) (hb : rightD b = true) : (showT a == showT b) = sameD a b := by
  simp only [showT, ha, hb, if_true]
  rw [Bool.eq_iff_iff, sameD_iff]
  simp only [beq_iff_eq]
  constructor
  · intro h; exact showD_inj ha hb h
  · intro h; rw [h]

set_option maxRecDepth 100000 in
set_option maxHeartbeats 4000000 in
theorem showUnlike_walk (r i : Int) (ks : List DT) (v : Value) (r' i' : Int) (ks' : List DT) (v' : Value) (w : World) (hrep : RepK w ks v) (hr : In64 r) (hi : In64 i) (hrep' : RepK w ks' v') (hr' : In64 r') (hi' : In64 i') (ht : Tab w) :
    Calls Tryd.prog 4 #[derivV r i v, derivV r' i' v'] w fun e w' => e = .returned (.bool true) ∧ Below w.heap.size w w' := by
  have h64d : in64D (.node r i ks) := ⟨hr, hi, hrep.in64⟩
  have h64d' : in64D (.node r' i' ks') := ⟨hr', hi', hrep'.in64⟩
  obtain ⟨hkl, a, c, rfl⟩ := hrep.form
  obtain ⟨hkl', a', c', rfl⟩ := hrep'.form
  clear hkl hkl'
  have HT := Lib.hid ht
  have HR := Lib.hid (And.intro hrep (And.intro hr hi))
  have HR' := Lib.hid (And.intro hrep' (And.intro hr' hi'))
  clear hrep hr hi hrep' hr' hi' ht
  unfold derivV
  have hb0 : Below (w.heap.size + 2) ((w.alloc (.cells #[.int .i64 r, .int .i64 i, .slice a ks.length c] 24)).alloc (.cells #[.int .i64 r', .int .i64 i', .slice a' ks'.length c'] 24)) ((w.alloc (.cells #[.int .i64 r, .int .i64 i, .slice a ks.length c] 24)).alloc (.cells #[.int .i64 r', .int .i64 i', .slice a' ks'.length c'] 24)) := Below.refl _ _
  have hx0 : ((w.alloc (.cells #[.int .i64 r, .int .i64 i, .slice a ks.length c] 24)).alloc (.cells #[.int .i64 r', .int .i64 i', .slice a' ks'.length c'] 24)).heap[w.heap.size]? = some (.cells #[.int .i64 r, .int .i64 i, .slice a ks.length c] 24 (0, 0)) :=
    (Lib.alloc_old _ _ _ (by simp)).trans (heap_new _ _ _)
  have hx1 : ((w.alloc (.cells #[.int .i64 r, .int .i64 i, .slice a ks.length c] 24)).alloc (.cells #[.int .i64 r', .int .i64 i', .slice a' ks'.length c'] 24)).heap[w.heap.size + 1]? = some (.cells #[.int .i64 r', .int .i64 i', .slice a' ks'.length c'] 24 (0, 0)) := by
    have := heap_new (w.alloc (.cells #[.int .i64 r, .int .i64 i, .slice a ks.length c] 24)) #[.int .i64 r', .int .i64 i', .slice a' ks'.length c'] 24
    simpa using this
  have hbw : Below w.heap.size w ((w.alloc (.cells #[.int .i64 r, .int .i64 i, .slice a ks.length c] 24)).alloc (.cells #[.int .i64 r', .int .i64 i', .slice a' ks'.length c'] 24)) := (below_alloc _ _).trans ((below_alloc _ _).mono (by simp))
  have hsz0 : ((w.alloc (.cells #[.int .i64 r, .int .i64 i, .slice a ks.length c] 24)).alloc (.cells #[.int .i64 r', .int .i64 i', .slice a' ks'.length c'] 24)).heap.size = w.heap.size + 2 := by simp
  go_enter Tryd.func4, Tryd.ntmps4
  have KEY : Hid (∀ w', Below (w.heap.size + 2) ((w.alloc (.cells #[.int .i64 r, .int .i64 i, .slice a ks.length c] 24)).alloc (.cells #[.int .i64 r', .int .i64 i', .slice a' ks'.length c'] 24)) w' →
      (w'.cell? ⟨w.heap.size, 0, none⟩ = some (.int .i64 r) ∧ w'.cell? ⟨w.heap.size, 1, none⟩ = some (.int .i64 i) ∧ w'.cell? ⟨w.heap.size, 2, none⟩ = some (.slice a ks.length c)) ∧
      (w'.cell? ⟨w.heap.size + 1, 0, none⟩ = some (.int .i64 r') ∧ w'.cell? ⟨w.heap.size + 1, 1, none⟩ = some (.int .i64 i') ∧ w'.cell? ⟨w.heap.size + 1, 2, none⟩ = some (.slice a' ks'.length c')) ∧ Below w.heap.size w w' ∧ w.heap.size + 2 ≤ w'.heap.size) := Lib.hid (fun w' h =>
    ⟨box_cells ((h.block _ (by omega)).trans hx0), box_cells ((h.block _ (by omega)).trans hx1), hbw.trans (h.mono (by omega)), by have := h.size; rw [hsz0] at this; exact this⟩)
  have HB0 := Lib.hid hb0
  have HBW := Lib.hid hbw
  have HSZ := Lib.hid hsz0
  clear hb0 hx0 hx1 hbw hsz0
  go_wp2_with fail
  refine (greatDeriv_any r i ks _ 600 _ (HR.out.1.kept HBW.out) (by omega) (by omega)).mono ?_
  rintro e w1 ⟨rfl, hb1⟩
  have HB1 := Lib.hid (HB0.out.trans (hb1.mono (by rw [HSZ.out]; omega)))
  obtain ⟨⟨x0, x1, x2⟩, ⟨y0, y1, y2⟩, hbw1, hsz1⟩ := KEY.out w1 HB1.out
  have HBW1 := Lib.hid hbw1
  clear hb1 hbw1
  cases hg : decide (600 < weigh (.node r i ks) 600 200)
  case true =>
    clear hg
    go_wp2
    go_ret
    exact ⟨rfl, HBW1.out⟩
  have hn := greatD_nodes hg
  go_wp2_with fail
  refine (greatDeriv_any r' i' ks' _ 600 _ (HR'.out.1.kept HBW1.out) (by omega) (by omega)).mono ?_
  rintro e w2 ⟨rfl, hb2⟩
  have HB2 := Lib.hid (HB1.out.trans (hb2.mono hsz1))
  clear x0 x1 x2 y0 y1 y2 hsz1 hg
  obtain ⟨⟨x0, x1, x2⟩, ⟨y0, y1, y2⟩, hbw2, hsz2⟩ := KEY.out w2 HB2.out
  have HBW2 := Lib.hid hbw2
  clear hb2 hbw2
  cases hg : decide (600 < weigh (.node r' i' ks') 600 200)
  case true =>
    clear hg
    go_wp2
    go_ret
    exact ⟨rfl, HBW2.out⟩
  have hn' := greatD_nodes hg
  have hl1 := showD_le _ h64d
  have hl2 := showD_le _ h64d'
  have HL : Hid ((showD (.node r i ks)).length ≤ 70368744177664 ∧ (showD (.node r' i' ks')).length ≤ 70368744177664) := Lib.hid ⟨by omega, by omega⟩
  clear hn hn' hl1 hl2 hg h64d h64d'
  go_wp2_with fail
  refine (rright_any _ r i ks _ _ (Nat.lt_succ_self _) (HR.out.1.kept HBW2.out) HR.out.2.1 HR.out.2.2).mono ?_
  rintro e w3 ⟨rfl, hb3⟩
  have HB3 := Lib.hid (HB2.out.trans (hb3.mono hsz2))
  clear x0 x1 x2 y0 y1 y2 hsz2
  obtain ⟨⟨x0, x1, x2⟩, ⟨y0, y1, y2⟩, hbw3, hsz3⟩ := KEY.out w3 HB3.out
  have HBW3 := Lib.hid hbw3
  clear hb3 hbw3
  cases hq1 : rightD (.node r i ks)
  case false =>
    clear hq1
    go_wp2
    go_ret
    exact ⟨rfl, HBW3.out⟩
  go_wp2_with fail
  refine (rright_any _ r' i' ks' _ _ (Nat.lt_succ_self _) (HR'.out.1.kept HBW3.out) HR'.out.2.1 HR'.out.2.2).mono ?_
  rintro e w4 ⟨rfl, hb4⟩
  have HB4 := Lib.hid (HB3.out.trans (hb4.mono hsz3))
  clear x0 x1 x2 y0 y1 y2 hsz3
  obtain ⟨⟨x0, x1, x2⟩, ⟨y0, y1, y2⟩, hbw4, hsz4⟩ := KEY.out w4 HB4.out
  have HBW4 := Lib.hid hbw4
  clear hb4 hbw4 x0 x1 x2 y0 y1 y2
  cases hq2 : rightD (.node r' i' ks')
  case false =>
    clear hq2
    go_wp2
    go_ret
    exact ⟨rfl, HBW4.out⟩
  have heq := showT_eq hq1 hq2
  clear hq1 hq2
  obtain ⟨σ, f, hne, hf, hcov⟩ := fam (w.heap.size + 2) w4 hsz4
  have HF : Hid (∀ s, Below (w.heap.size + 2) ((w.alloc (.cells #[.int .i64 r, .int .i64 i, .slice a ks.length c] 24)).alloc (.cells #[.int .i64 r', .int .i64 i', .slice a' ks'.length c'] 24)) (f s)) := Lib.hid (fun s => HB4.out.trans (hf s).1)
  have hc0 := fun s => (KEY.out _ (HF.out s)).1.1
  have hc1 := fun s => (KEY.out _ (HF.out s)).1.2.1
  have hc2 := fun s => (KEY.out _ (HF.out s)).1.2.2
  have hd0 := fun s => (KEY.out _ (HF.out s)).2.1.1
  have hd1 := fun s => (KEY.out _ (HF.out s)).2.1.2.1
  have hd2 := fun s => (KEY.out _ (HF.out s)).2.1.2.2
  have HBF : Hid (∀ s, Below w.heap.size w (f s)) := Lib.hid (fun s => (KEY.out _ (HF.out s)).2.2.1)
  have HFF := Lib.hid hf
  have HCOV := Lib.hid hcov
  clear hf hcov
  go_wp2_with fail
  refine wp_region_fam_lit f (by kernel_rfl) (by kernel_rfl) (HCOV.out _ (Below.refl _ _).drew) ?_
  repeat (go_big_quiet_step ((first
    | (go_at_call_of 13 (Value.agg #[.int .i64 r, .int .i64 i, .slice a ks.length c]); exact calls_fam HFF.out HCOV.out (showDeriv_any r i ks _ _ (HR.out.1.kept (HBF.out _)) HR.out.2.1 HR.out.2.2 (HT.out.below (HBF.out _)) HL.out.1))
    | (go_at_call 13; exact calls_fam HFF.out HCOV.out (showDeriv_any r' i' ks' _ _ (HR'.out.1.kept (HBF.out _)) HR'.out.2.1 HR'.out.2.2 (HT.out.below (HBF.out _)) HL.out.2))
    | (go_at_call 20; exact calls_fam HFF.out HCOV.out (keepD_any r i r' i' ks ks' _ _ _ (HR.out.1.kept (HBF.out _)) (HR'.out.1.kept (HBF.out _))))
    | (go_at_call 17; exact calls_fam HFF.out HCOV.out (wakes14 _ (HT.out.below (HBF.out _)))))))
  refine wpQuiet_nil ?_
  rintro _ ⟨s, rfl⟩
  go_wp2
  go_ret
  exact ⟨rfl, HBF.out s⟩
end Go.Proofs.YtfpiogaakblpeaaDoor
