/- Walks of transhiplaw10.WriteExact, WriteUnlike. -/
import Derived.Test.YtefjgpahgffmfaaDoorLaw10
import Derived.Test.YtefjgpahgffmfaaDoorRw
namespace Go.Proofs.YtefjgpahgffmfaaDoor
open Go.RowKit

set_option maxRecDepth 100000 in
set_option maxHeartbeats 4000000 in
theorem writeExact_walk (k i j n : Int) (ks : List TT) (v : Value) (m : Int) (w : World) (hrep : RepT w ks v) (h4 : In4 k i j n) (ht : Tab w) :
    Calls Tryd.prog 3 #[termV k i j n v, .int .i64 m] w fun e w' => e = .returned (.bool true) ∧ Below w.heap.size w w' := by
  obtain ⟨hkl, a, c, rfl⟩ := hrep.form
  clear hkl
  have HT := Lib.hid ht
  have HR := Lib.hid (And.intro hrep h4)
  clear hrep h4 ht
  unfold termV
  have HB0 : Hid (Below (w.heap.size + 1) (w.alloc (.cells #[.int .i64 k, .int .i64 i, .int .i64 j, .int .i64 n, .slice a ks.length c] 24)) (w.alloc (.cells #[.int .i64 k, .int .i64 i, .int .i64 j, .int .i64 n, .slice a ks.length c] 24))) := Lib.hid (Below.refl _ _)
  go_enter Tryd.func3, Tryd.ntmps3
  go_wp2_with fail
  refine (great_any k i j n ks _ 300 _ (HR.out.1.kept (below_alloc _ _)) (by omega) (by omega)).mono ?_
  rintro e w1 ⟨rfl, hb1⟩
  have HB1 := Lib.hid (HB0.out.trans (hb1.mono (Nat.le_of_eq (by simp))))
  clear hb1
  cases hg : decide (300 < weigh (.node k i j n ks) 300 200)
  case true =>
    clear hg
    go_wp2
    go_ret
    exact ⟨rfl, below_of_box HB1.out⟩
  have HSZ : Hid (sizeT (.node k i j n ks) ≤ 1000000) := Lib.hid (by
    have h1 : weigh (.node k i j n ks) 300 200 ≤ 300 := by simpa using hg
    have := weigh_size _ _ _ h1
    omega)
  clear hg
  obtain ⟨σ, f, hne, hf, hcov⟩ := fam (w.heap.size + 1) w1 (by have := HB1.out.size; simpa using this)
  have HF : Hid (∀ s, Below (w.heap.size + 1) (w.alloc (.cells #[.int .i64 k, .int .i64 i, .int .i64 j, .int .i64 n, .slice a ks.length c] 24)) (f s)) := Lib.hid (fun s => HB1.out.trans (hf s).1)
  have hc0 : ∀ s, (f s).cell? ⟨w.heap.size, 0, none⟩ = some (.int .i64 k) := fun s => box_cell (HF.out s) 0 (by simp)
  have hc1 : ∀ s, (f s).cell? ⟨w.heap.size, 1, none⟩ = some (.int .i64 i) := fun s => box_cell (HF.out s) 1 (by simp)
  have hc2 : ∀ s, (f s).cell? ⟨w.heap.size, 2, none⟩ = some (.int .i64 j) := fun s => box_cell (HF.out s) 2 (by simp)
  have hc3 : ∀ s, (f s).cell? ⟨w.heap.size, 3, none⟩ = some (.int .i64 n) := fun s => box_cell (HF.out s) 3 (by simp)
  have hc4 : ∀ s, (f s).cell? ⟨w.heap.size, 4, none⟩ = some (.slice a ks.length c) := fun s => box_cell (HF.out s) 4 (by simp)
  have HBF : Hid (∀ s, Below w.heap.size w (f s)) := Lib.hid (fun s => below_of_box (HF.out s))
  have HFF := Lib.hid hf
  have HCOV := Lib.hid hcov
  clear hf hcov
  go_wp2_with fail
  refine wp_region_fam_lit f (by kernel_rfl) (by kernel_rfl) (HCOV.out _ (Below.refl _ _).drew) ?_
  repeat (go_big_quiet_step ((first
    | (go_at_call 15; exact calls_fam HFF.out HCOV.out (writeW_any k i j n ks _ m _ (HR.out.1.kept (HBF.out _)) HR.out.2 HSZ.out (HT.out.below (HBF.out _))))
    | (go_at_call 16; exact calls_fam HFF.out HCOV.out (rWriteW_any k i j n ks _ m _ (HR.out.1.kept (HBF.out _)) HR.out.2 HSZ.out))
    | (go_at_call 17; exact calls_fam HFF.out HCOV.out (wakes10 _ (HT.out.below (HBF.out _)))))))
  refine wpQuiet_nil ?_
  rintro _ ⟨s, rfl⟩
  go_wp2
  go_ret
  exact ⟨rfl, HBF.out s⟩

theorem writeW_eq {a b : TT} {m : Int} (ha : rightT a 0 = true) (hb : rightT b 0 = true) (fa : decide (m < freeOf a) = false) (fb : decide (m < freeOf b) = false) (hm : decide (1000000 < m) = false) : (writeW a m == writeW b m) = sameT a b := by
  have f1 : ¬ m < freeOf a := by simpa using fa
  have f2 : ¬ m < freeOf b := by simpa using fb
  have f3 : m ≤ 1000000 := by simpa using hm
  have h0 : 0 ≤ m := by
    have := freeR_in a 0 ha
    rw [freeOf_R ha] at f1
    omega
  rw [writeW_in h0 f3 ha f1, writeW_in h0 f3 hb f2, Bool.eq_iff_iff, sameT_iff]
  simp only [beq_iff_eq]
  constructor
  · intro h; exact writeT_inj ha hb h
  · intro h; rw [h]

set_option maxRecDepth 100000 in
set_option maxHeartbeats 4000000 in
theorem writeUnlike_walk (k i j n : Int) (ks : List TT) (v : Value) (k' i' j' n' : Int) (ks' : List TT) (v' : Value) (m : Int) (w : World) (hrep : RepT w ks v) (h4 : In4 k i j n) (hrep' : RepT w ks' v') (h4' : In4 k' i' j' n') (ht : Tab w) :
    Calls Tryd.prog 4 #[termV k i j n v, termV k' i' j' n' v', .int .i64 m] w fun e w' => e = .returned (.bool true) ∧ Below w.heap.size w w' := by
  obtain ⟨hkl, a, c, rfl⟩ := hrep.form
  obtain ⟨hkl', a', c', rfl⟩ := hrep'.form
  clear hkl hkl'
  have HT := Lib.hid ht
  have HR := Lib.hid (And.intro hrep h4)
  have HR' := Lib.hid (And.intro hrep' h4')
  clear hrep h4 hrep' h4' ht
  unfold termV
  have hx0 : ((w.alloc (.cells #[.int .i64 k, .int .i64 i, .int .i64 j, .int .i64 n, .slice a ks.length c] 24)).alloc (.cells #[.int .i64 k', .int .i64 i', .int .i64 j', .int .i64 n', .slice a' ks'.length c'] 24)).heap[w.heap.size]? = some (.cells #[.int .i64 k, .int .i64 i, .int .i64 j, .int .i64 n, .slice a ks.length c] 24 (0, 0)) := (Lib.alloc_old _ _ _ (by simp)).trans (new_heap _ _ _)
  have hx1 : ((w.alloc (.cells #[.int .i64 k, .int .i64 i, .int .i64 j, .int .i64 n, .slice a ks.length c] 24)).alloc (.cells #[.int .i64 k', .int .i64 i', .int .i64 j', .int .i64 n', .slice a' ks'.length c'] 24)).heap[w.heap.size + 1]? = some (.cells #[.int .i64 k', .int .i64 i', .int .i64 j', .int .i64 n', .slice a' ks'.length c'] 24 (0, 0)) := by
    have := new_heap (w.alloc (.cells #[.int .i64 k, .int .i64 i, .int .i64 j, .int .i64 n, .slice a ks.length c] 24)) #[.int .i64 k', .int .i64 i', .int .i64 j', .int .i64 n', .slice a' ks'.length c'] 24
    simpa using this
  have hbw : Below w.heap.size w ((w.alloc (.cells #[.int .i64 k, .int .i64 i, .int .i64 j, .int .i64 n, .slice a ks.length c] 24)).alloc (.cells #[.int .i64 k', .int .i64 i', .int .i64 j', .int .i64 n', .slice a' ks'.length c'] 24)) := (below_alloc _ _).trans ((below_alloc _ _).mono (by simp))
  have hsz0 : ((w.alloc (.cells #[.int .i64 k, .int .i64 i, .int .i64 j, .int .i64 n, .slice a ks.length c] 24)).alloc (.cells #[.int .i64 k', .int .i64 i', .int .i64 j', .int .i64 n', .slice a' ks'.length c'] 24)).heap.size = w.heap.size + 2 := by simp
  have KEY : Hid (∀ w', Below (w.heap.size + 2) ((w.alloc (.cells #[.int .i64 k, .int .i64 i, .int .i64 j, .int .i64 n, .slice a ks.length c] 24)).alloc (.cells #[.int .i64 k', .int .i64 i', .int .i64 j', .int .i64 n', .slice a' ks'.length c'] 24)) w' → (w'.cell? ⟨w.heap.size, 0, none⟩ = some (.int .i64 k) ∧ w'.cell? ⟨w.heap.size, 1, none⟩ = some (.int .i64 i) ∧ w'.cell? ⟨w.heap.size, 2, none⟩ = some (.int .i64 j) ∧ w'.cell? ⟨w.heap.size, 3, none⟩ = some (.int .i64 n) ∧ w'.cell? ⟨w.heap.size, 4, none⟩ = some (.slice a ks.length c)) ∧ (w'.cell? ⟨w.heap.size + 1, 0, none⟩ = some (.int .i64 k') ∧ w'.cell? ⟨w.heap.size + 1, 1, none⟩ = some (.int .i64 i') ∧ w'.cell? ⟨w.heap.size + 1, 2, none⟩ = some (.int .i64 j') ∧ w'.cell? ⟨w.heap.size + 1, 3, none⟩ = some (.int .i64 n') ∧ w'.cell? ⟨w.heap.size + 1, 4, none⟩ = some (.slice a' ks'.length c')) ∧ Below w.heap.size w w' ∧ w.heap.size + 2 ≤ w'.heap.size) := Lib.hid (fun w' h =>
    ⟨box_cells5 ((h.block _ (by omega)).trans hx0), box_cells5 ((h.block _ (by omega)).trans hx1), hbw.trans (h.mono (by omega)), by have := h.size; rw [hsz0] at this; exact this⟩)
  have HB0 : Hid (Below (w.heap.size + 2) ((w.alloc (.cells #[.int .i64 k, .int .i64 i, .int .i64 j, .int .i64 n, .slice a ks.length c] 24)).alloc (.cells #[.int .i64 k', .int .i64 i', .int .i64 j', .int .i64 n', .slice a' ks'.length c'] 24)) ((w.alloc (.cells #[.int .i64 k, .int .i64 i, .int .i64 j, .int .i64 n, .slice a ks.length c] 24)).alloc (.cells #[.int .i64 k', .int .i64 i', .int .i64 j', .int .i64 n', .slice a' ks'.length c'] 24))) := Lib.hid (Below.refl _ _)
  have HBW0 := Lib.hid hbw
  have HZ0 : Hid (w.heap.size + 2 ≤ ((w.alloc (.cells #[.int .i64 k, .int .i64 i, .int .i64 j, .int .i64 n, .slice a ks.length c] 24)).alloc (.cells #[.int .i64 k', .int .i64 i', .int .i64 j', .int .i64 n', .slice a' ks'.length c'] 24)).heap.size) := Lib.hid (by rw [hsz0]; exact Nat.le_refl _)
  clear hx0 hx1 hbw hsz0
  obtain ⟨⟨x0, x1, x2, x3, x4⟩, ⟨y0, y1, y2, y3, y4⟩, hbw, hsz⟩ := KEY.out ((w.alloc (.cells #[.int .i64 k, .int .i64 i, .int .i64 j, .int .i64 n, .slice a ks.length c] 24)).alloc (.cells #[.int .i64 k', .int .i64 i', .int .i64 j', .int .i64 n', .slice a' ks'.length c'] 24)) HB0.out
  clear hbw hsz
  go_enter Tryd.func4, Tryd.ntmps4
  go_wp2_with fail
  refine (great_any k i j n ks _ 300 _ (HR.out.1.kept HBW0.out) (by omega) (by omega)).mono ?_
  rintro e w1 ⟨rfl, hb⟩
  have HB1 := Lib.hid (HB0.out.trans (hb.mono HZ0.out))
  clear hb x0 x1 x2 x3 x4 y0 y1 y2 y3 y4
  obtain ⟨⟨x0, x1, x2, x3, x4⟩, ⟨y0, y1, y2, y3, y4⟩, hbw, hsz⟩ := KEY.out w1 HB1.out
  have HBW1 := Lib.hid hbw
  have HZ1 := Lib.hid hsz
  clear hbw hsz
  cases hg : decide (300 < weigh (.node k i j n ks) 300 200)
  case true =>
    clear hg
    go_wp2
    go_ret
    exact ⟨rfl, HBW1.out⟩
  have HSZ : Hid (sizeT (.node k i j n ks) ≤ 1000000) := Lib.hid (by
    have h1 : weigh (.node k i j n ks) 300 200 ≤ 300 := by simpa using hg
    have := weigh_size _ _ _ h1
    omega)
  clear hg
  go_wp2_with fail
  refine (great_any k' i' j' n' ks' _ 300 _ (HR'.out.1.kept HBW1.out) (by omega) (by omega)).mono ?_
  rintro e w2 ⟨rfl, hb⟩
  have HB2 := Lib.hid (HB1.out.trans (hb.mono HZ1.out))
  clear hb x0 x1 x2 x3 x4 y0 y1 y2 y3 y4
  obtain ⟨⟨x0, x1, x2, x3, x4⟩, ⟨y0, y1, y2, y3, y4⟩, hbw, hsz⟩ := KEY.out w2 HB2.out
  have HBW2 := Lib.hid hbw
  have HZ2 := Lib.hid hsz
  clear hbw hsz
  cases hg : decide (300 < weigh (.node k' i' j' n' ks') 300 200)
  case true =>
    clear hg
    go_wp2
    go_ret
    exact ⟨rfl, HBW2.out⟩
  have HSZ' : Hid (sizeT (.node k' i' j' n' ks') ≤ 1000000) := Lib.hid (by
    have h1 : weigh (.node k' i' j' n' ks') 300 200 ≤ 300 := by simpa using hg
    have := weigh_size _ _ _ h1
    omega)
  clear hg
  go_wp2_with fail
  refine (rright04_any k i j n ks _ _ (HR.out.1.kept HBW2.out)).mono ?_
  rintro e w3 ⟨rfl, hb⟩
  have HB3 := Lib.hid (HB2.out.trans (hb.mono HZ2.out))
  clear hb x0 x1 x2 x3 x4 y0 y1 y2 y3 y4
  obtain ⟨⟨x0, x1, x2, x3, x4⟩, ⟨y0, y1, y2, y3, y4⟩, hbw, hsz⟩ := KEY.out w3 HB3.out
  have HBW3 := Lib.hid hbw
  have HZ3 := Lib.hid hsz
  clear hbw hsz
  cases hq1 : rightT (.node k i j n ks) 0
  case false =>
    clear hq1
    go_wp2
    go_ret
    exact ⟨rfl, HBW3.out⟩
  have HQ1 := Lib.hid hq1
  clear hq1
  go_wp2_with fail
  refine (rright04_any k' i' j' n' ks' _ _ (HR'.out.1.kept HBW3.out)).mono ?_
  rintro e w4 ⟨rfl, hb⟩
  have HB4 := Lib.hid (HB3.out.trans (hb.mono HZ3.out))
  clear hb x0 x1 x2 x3 x4 y0 y1 y2 y3 y4
  obtain ⟨⟨x0, x1, x2, x3, x4⟩, ⟨y0, y1, y2, y3, y4⟩, hbw, hsz⟩ := KEY.out w4 HB4.out
  have HBW4 := Lib.hid hbw
  have HZ4 := Lib.hid hsz
  clear hbw hsz
  cases hq2 : rightT (.node k' i' j' n' ks') 0
  case false =>
    clear hq2
    go_wp2
    go_ret
    exact ⟨rfl, HBW4.out⟩
  have HQ2 := Lib.hid hq2
  clear hq2
  go_wp2_with fail
  refine (rFree04_any k i j n ks _ _ (HR.out.1.kept HBW4.out)).mono ?_
  rintro e w5 ⟨rfl, hb⟩
  have HB5 := Lib.hid (HB4.out.trans (hb.mono HZ4.out))
  clear hb x0 x1 x2 x3 x4 y0 y1 y2 y3 y4
  obtain ⟨⟨x0, x1, x2, x3, x4⟩, ⟨y0, y1, y2, y3, y4⟩, hbw, hsz⟩ := KEY.out w5 HB5.out
  have HBW5 := Lib.hid hbw
  have HZ5 := Lib.hid hsz
  clear hbw hsz
  rcases Bool.eq_false_or_eq_true (decide (m < freeOf (.node k i j n ks))) with hf1 | hf1
  · go_wp2
    go_ret
    exact ⟨rfl, HBW5.out⟩
  have HF1 := Lib.hid hf1
  go_wp2_with fail
  refine (rFree04_any k' i' j' n' ks' _ _ (HR'.out.1.kept HBW5.out)).mono ?_
  rintro e w6 ⟨rfl, hb⟩
  have HB6 := Lib.hid (HB5.out.trans (hb.mono HZ5.out))
  clear hb x0 x1 x2 x3 x4 y0 y1 y2 y3 y4
  obtain ⟨⟨x0, x1, x2, x3, x4⟩, ⟨y0, y1, y2, y3, y4⟩, hbw, hsz⟩ := KEY.out w6 HB6.out
  have HBW6 := Lib.hid hbw
  have HZ6 := Lib.hid hsz
  clear hbw hsz
  rcases Bool.eq_false_or_eq_true (decide (m < freeOf (.node k' i' j' n' ks'))) with hf2 | hf2
  · go_wp2
    go_ret
    exact ⟨rfl, HBW6.out⟩
  have HF2 := Lib.hid hf2
  rcases Bool.eq_false_or_eq_true (decide (1000000 < m)) with hm | hm
  · go_wp2
    go_ret
    exact ⟨rfl, HBW6.out⟩
  have heq := writeW_eq HQ1.out HQ2.out HF1.out HF2.out hm
  clear x0 x1 x2 x3 x4 y0 y1 y2 y3 y4
  obtain ⟨σ, f, hne, hf, hcov⟩ := fam (w.heap.size + 2) w6 HZ6.out
  have HF : Hid (∀ s, Below (w.heap.size + 2) ((w.alloc (.cells #[.int .i64 k, .int .i64 i, .int .i64 j, .int .i64 n, .slice a ks.length c] 24)).alloc (.cells #[.int .i64 k', .int .i64 i', .int .i64 j', .int .i64 n', .slice a' ks'.length c'] 24)) (f s)) := Lib.hid (fun s => HB6.out.trans (hf s).1)
  have hc0 := fun s => (KEY.out _ (HF.out s)).1.1
  have hc1 := fun s => (KEY.out _ (HF.out s)).1.2.1
  have hc2 := fun s => (KEY.out _ (HF.out s)).1.2.2.1
  have hc3 := fun s => (KEY.out _ (HF.out s)).1.2.2.2.1
  have hc4 := fun s => (KEY.out _ (HF.out s)).1.2.2.2.2
  have hd0 := fun s => (KEY.out _ (HF.out s)).2.1.1
  have hd1 := fun s => (KEY.out _ (HF.out s)).2.1.2.1
  have hd2 := fun s => (KEY.out _ (HF.out s)).2.1.2.2.1
  have hd3 := fun s => (KEY.out _ (HF.out s)).2.1.2.2.2.1
  have hd4 := fun s => (KEY.out _ (HF.out s)).2.1.2.2.2.2
  have HBF : Hid (∀ s, Below w.heap.size w (f s)) := Lib.hid (fun s => (KEY.out _ (HF.out s)).2.2.1)
  have HFF := Lib.hid hf
  have HCOV := Lib.hid hcov
  clear hf hcov
  go_wp2_with fail
  refine wp_region_fam_lit f (by kernel_rfl) (by kernel_rfl) (HCOV.out _ (Below.refl _ _).drew) ?_
  repeat (go_big_quiet_step ((first
    | (go_at_call_of 15 (Value.agg #[.int .i64 k, .int .i64 i, .int .i64 j, .int .i64 n, .slice a ks.length c]); exact calls_fam HFF.out HCOV.out (writeW_any k i j n ks _ m _ (HR.out.1.kept (HBF.out _)) HR.out.2 HSZ.out (HT.out.below (HBF.out _))))
    | (go_at_call 15; exact calls_fam HFF.out HCOV.out (writeW_any k' i' j' n' ks' _ m _ (HR'.out.1.kept (HBF.out _)) HR'.out.2 HSZ'.out (HT.out.below (HBF.out _))))
    | (go_at_call 20; exact calls_fam HFF.out HCOV.out (same_any k i j n k' i' j' n' ks ks' _ _ _ (HR.out.1.kept (HBF.out _)) (HR'.out.1.kept (HBF.out _))))
    | (go_at_call 17; exact calls_fam HFF.out HCOV.out (wakes10 _ (HT.out.below (HBF.out _)))))))
  refine wpQuiet_nil ?_
  rintro _ ⟨s, rfl⟩
  go_wp2
  go_ret
  exact ⟨rfl, HBF.out s⟩
end Go.Proofs.YtefjgpahgffmfaaDoor
