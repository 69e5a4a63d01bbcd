/- Walks of transhipref11.Right, Rights. -/
import Derived.Test.YtfpiogaakblpeaaDoorRKids
import Derived.Test.YtfpiogaakblpeaaDoorFam
import Derived.Test.YtfpiogaakblpeaaDoorRight
namespace Go.Proofs.YtfpiogaakblpeaaDoor
open Go.RowKit

set_option maxRecDepth 100000 in
set_option maxHeartbeats 4000000 in
theorem rright_no (r i : Int) (ks : List DT) (v : Value) (w : World) (hrep : RepK w ks v) (hr : In64 r)
    (hq : decide (kidsI r < 0) = true ∨ decide (kidsI r < 0) = false ∧ (((ks.length : Int) != kidsI r) = true ∨ ((ks.length : Int) != kidsI r) = false ∧ (decide (i < 0) = true ∨ decide (i < 0) = false ∧ (decide (1000000 < i) = true ∨ decide (1000000 < i) = false ∧ decide (0 < i) = true ∧ numbered r = false)))) :
    Calls Tryd.prog 19 #[derivV r i v] w fun e w' => e = .returned (.bool false) ∧ Below w.heap.size w w' := by
  obtain ⟨hlen, a, c, rfl⟩ := hrep.form
  unfold maxLen at hlen
  clear hrep
  have HR := Lib.hid hr
  clear hr
  unfold derivV
  rcases hq with h1 | ⟨h1, h2 | ⟨h2, h3 | ⟨h3, h4 | ⟨h4, h5, h6⟩⟩⟩⟩
  all_goals
    go_enter Tryd.func19, Tryd.ntmps19
    go_wp2
    obtain ⟨σ, f, hne, hf, hcov⟩ := fam (w.heap.size + 1) (w.alloc (.cells #[.int .i64 r, .int .i64 i, .slice a ks.length c] 24)) (by simp)
    have hc0 : ∀ s, (f s).cell? ⟨w.heap.size, 0, none⟩ = some (.int .i64 r) := fun s => box_cell (hf s).1 0 (by simp)
    have hc1 : ∀ s, (f s).cell? ⟨w.heap.size, 1, none⟩ = some (.int .i64 i) := fun s => box_cell (hf s).1 1 (by simp)
    have hc2 : ∀ s, (f s).cell? ⟨w.heap.size, 2, none⟩ = some (.slice a ks.length c) := fun s => box_cell (hf s).1 2 (by simp)
    have HF := Lib.hid hf
    have HCOV := Lib.hid hcov
    clear hf hcov
    refine wp_region_fam_lit f (by kernel_rfl) (by kernel_rfl) (HCOV.out _ (Below.refl _ _).drew) ?_
    repeat (go_big_quiet_step ((first | (go_at_call 36; exact calls_fam HF.out HCOV.out (rkids_any _ _ HR.out)) | (go_at_call 37; exact calls_fam_same (numbered_any _ _)))))
    refine wpQuiet_nil ?_
    rintro _ ⟨s, rfl⟩
    go_wp2
    go_ret
    exact ⟨rfl, below_of_box (by simpa using (HF.out s).1)⟩

set_option maxRecDepth 100000 in
set_option maxHeartbeats 4000000 in
theorem rright_any : ∀ (N : Nat) (r i : Int) (ks : List DT) (v : Value) (w : World), SizeOf.sizeOf (DT.node r i ks) < N → RepK w ks v → In64 r → In64 i →
    Calls Tryd.prog 19 #[derivV r i v] w fun e w' => e = .returned (.bool (rightD (.node r i ks))) ∧ Below w.heap.size w w' := by
  intro N
  induction N with
  | zero => intro r i ks v w h; omega
  | succ N ih =>
    intro r i ks v w hN hrep hr hi
    by_cases hcase : (kidsI r = (ks.length : Int)) ∧ 0 ≤ i ∧ i ≤ 1000000 ∧ (i = 0 ∨ numbered r = true)
    · obtain ⟨hk, hi0, hi1, hq⟩ := hcase
      have hval : rightD (.node r i ks) = rightDs ks := by
        simp only [rightD, hk, hi0, hi1]
        rcases hq with h | h
        · simp [h]
        · simp only [numbered, Bool.or_eq_true, beq_iff_eq] at h
          rcases h with h | h <;> simp [h]
      rw [hval]
      have h1 : decide (kidsI r < 0) = false := by simp; omega
      have h2 : ((ks.length : Int) != kidsI r) = false := by simp [hk]
      have h3 : decide (i < 0) = false := by simp; omega
      have h4 : decide (1000000 < i) = false := by simp; omega
      have hq2 : decide (0 < i) = false ∨ decide (0 < i) = true ∧ numbered r = true := by
        by_cases h0 : i = 0
        · exact .inl (by simp [h0])
        · exact .inr ⟨by simp; omega, hq.resolve_left h0⟩
      clear hq hk hval hi0 hi1
      obtain ⟨hlen, a, c, rfl⟩ := hrep.form
      unfold maxLen at hlen
      have HR := Lib.hid hrep
      have HI := Lib.hid hr
      clear hrep hr
      unfold derivV
      rcases hq2 with h5 | ⟨h5, h6⟩
      all_goals
        go_enter Tryd.func19, Tryd.ntmps19
        go_wp2
        obtain ⟨σ, f, hne, hf, hcov⟩ := fam (w.heap.size + 1) (w.alloc (.cells #[.int .i64 r, .int .i64 i, .slice a ks.length c] 24)) (by simp)
        have hc0 : ∀ s, (f s).cell? ⟨w.heap.size, 0, none⟩ = some (.int .i64 r) := fun s => box_cell (hf s).1 0 (by simp)
        have hc1 : ∀ s, (f s).cell? ⟨w.heap.size, 1, none⟩ = some (.int .i64 i) := fun s => box_cell (hf s).1 1 (by simp)
        have hc2 : ∀ s, (f s).cell? ⟨w.heap.size, 2, none⟩ = some (.slice a ks.length c) := fun s => box_cell (hf s).1 2 (by simp)
        have HF := Lib.hid hf
        have HCOV := Lib.hid hcov
        clear hf hcov
        refine wp_region_fam_lit f (by kernel_rfl) (by kernel_rfl) (HCOV.out _ (Below.refl _ _).drew) ?_
        repeat (go_big_quiet_step ((first | (go_at_call 36; exact calls_fam HF.out HCOV.out (rkids_any _ _ HI.out)) | (go_at_call 37; exact calls_fam_same (numbered_any _ _)))))
        refine wpQuiet_nil ?_
        rintro _ ⟨s, rfl⟩
        have HFS := Lib.hid (HF.out s)
        clear HF HCOV hc0 hc1 hc2
        generalize f s = wf at HFS
        (try simp only [h6])
        go_wp2
        go_loopw [3] (fun ix wr => ∃ (j : Nat), ix = .int .i64 j ∧ j ≤ ks.length ∧ rightDs (ks.drop j) = rightDs ks ∧ Below (w.heap.size + 1) (w.alloc (.cells #[.int .i64 r, .int .i64 i, .slice a ks.length c] 24)) wr) (fun i _ => ks.length - (intOf i).toNat)
        case atStart => exact ⟨0, rfl, by omega, rfl, HFS.out.1⟩
        case round =>
          obtain ⟨j, rfl, hj, hws, hbel⟩ := hrel
          have hB := below_of_box hbel
          have hsz : w.heap.size + 1 ≤ wr.heap.size := by simpa using hbel.size
          have hc2 : wr.cell? ⟨w.heap.size, 2, none⟩ = some (.slice a ks.length c) := by rw [box_cell hbel 2 (by simp)]; rfl
          by_cases hlt : j < ks.length
          · obtain ⟨b, o, r1, i1, l1, v1, rfl, _, hbs, hj1, e0, e1, e2, hr1, hi1, hk1⟩ := (HR.out.kept hB).at j hlt
            have hd := rightDs_cons hj1
            rw [hws] at hd
            have hlt1 := DT.lt hj1 r i
            have HS := Lib.hid (And.intro hd (And.intro hk1 (And.intro hr1 hi1)))
            have HB := Lib.hid (And.intro hbel hB)
            clear hws hk1 hr1 hi1 hj1 hbel hB hd
            go_wp2_with fail
            refine (ih r1 i1 l1 _ _ (by omega) HS.out.2.1 HS.out.2.2.1 HS.out.2.2.2).mono ?_
            rintro e w2 ⟨rfl, hb2⟩
            have HB2 := Lib.hid (hb2.mono hsz)
            clear hb2
            cases hrd : rightD (.node r1 i1 l1)
            · have hfin : rightDs ks = false := by rw [HS.out.1, hrd]; rfl
              have HF := Lib.hid hfin
              clear hfin
              go_wp2
              go_ret
              exact ⟨by rw [HF.out]; rfl, HB.out.2.trans (HB2.out.mono (Nat.le_succ _))⟩
            · have hfin : rightDs (ks.drop (j + 1)) = rightDs ks := by rw [HS.out.1, hrd]; rfl
              have HF := Lib.hid hfin
              clear hfin
              go_wp2
              go_round
              case rel => exact ⟨j + 1, by go_num, by omega, HF.out, HB.out.1.trans HB2.out⟩
              case measure => simp [intOf]; omega
          · have hjl : j = ks.length := by omega
            subst hjl
            have hfin : rightDs ks = true := by rw [← hws, List.drop_length, rightDs]
            have HF := Lib.hid (And.intro hfin hB)
            clear hws hfin hbel hB
            go_wp2
            go_ret
            exact ⟨by rw [HF.out.1]; rfl, HF.out.2⟩
    · have hval : rightD (.node r i ks) = false := by
        rw [Bool.eq_false_iff]
        intro h
        simp only [rightD, Bool.and_eq_true, beq_iff_eq, decide_eq_true_eq, Bool.or_eq_true] at h
        refine hcase ⟨h.1.1.1.1, h.1.1.1.2, h.1.1.2, ?_⟩
        rcases h.1.2 with (h | h) | h
        · exact .inl h
        · exact .inr (by simp [numbered, h])
        · exact .inr (by simp [numbered, h])
      rw [hval]
      refine rright_no r i ks v w hrep hr ?_
      by_cases h0 : kidsI r < 0
      · exact .inl (by simp [h0])
      refine .inr ⟨by simp; omega, ?_⟩
      by_cases h1 : kidsI r = (ks.length : Int)
      · refine .inr ⟨by simp [h1], ?_⟩
        by_cases h2 : i < 0
        · exact .inl (by simp [h2])
        · refine .inr ⟨by simp; omega, ?_⟩
          by_cases h3 : 1000000 < i
          · exact .inl (by simp [h3])
          · refine .inr ⟨by simp; omega, ?_⟩
            have h4 : ¬ (i = 0 ∨ numbered r = true) := fun h => hcase ⟨h1, by omega, by omega, h⟩
            exact ⟨by simp; omega, by simpa using fun h => h4 (.inr h)⟩
      · exact .inl (by simp; omega)

set_option maxRecDepth 100000 in
set_option maxHeartbeats 1000000 in
theorem rrights_any (ks : List DT) (v : Value) (w : World) (hrep : RepK w ks v) :
    Calls Tryd.prog 28 #[v] w fun e w' => e = .returned (.bool (rightDs ks)) ∧ Below w.heap.size w w' := by
  obtain ⟨hlen, a, c, rfl⟩ := hrep.form
  unfold maxLen at hlen
  have HR := Lib.hid hrep
  clear hrep
  go_enter Tryd.func28, Tryd.ntmps28
  go_wp2
  go_loopw [3] (fun ix wr => ∃ (j : Nat), ix = .int .i64 j ∧ j ≤ ks.length ∧ rightDs (ks.drop j) = rightDs ks ∧ Below w.heap.size w wr) (fun i _ => ks.length - (intOf i).toNat)
  case atStart => exact ⟨0, rfl, by omega, rfl, Below.refl _ _⟩
  case round =>
    obtain ⟨j, rfl, hj, hws, hbel⟩ := hrel
    by_cases hlt : j < ks.length
    · obtain ⟨b, o, r1, i1, l1, v1, rfl, _, hbs, hj1, e0, e1, e2, hr1, hi1, hk1⟩ := (HR.out.kept hbel).at j hlt
      have hd := rightDs_cons hj1
      rw [hws] at hd
      have HS := Lib.hid (And.intro hd (And.intro hk1 (And.intro hr1 hi1)))
      have HB := Lib.hid hbel
      clear hws hk1 hr1 hi1 hj1 hbel hd
      go_wp2_with fail
      refine (rright_any _ r1 i1 l1 _ _ (Nat.lt_succ_self _) HS.out.2.1 HS.out.2.2.1 HS.out.2.2.2).mono ?_
      rintro e w2 ⟨rfl, hb2⟩
      have HB2 := Lib.hid (hb2.mono HB.out.size)
      clear hb2
      cases hrd : rightD (.node r1 i1 l1)
      · have hfin : rightDs ks = false := by rw [HS.out.1, hrd]; rfl
        have HF := Lib.hid hfin
        clear hfin
        go_wp2
        go_ret
        exact ⟨by rw [HF.out]; rfl, HB.out.trans HB2.out⟩
      · have hfin : rightDs (ks.drop (j + 1)) = rightDs ks := by rw [HS.out.1, hrd]; rfl
        have HF := Lib.hid hfin
        clear hfin
        go_wp2
        go_round
        case rel => exact ⟨j + 1, by go_num, by omega, HF.out, HB.out.trans HB2.out⟩
        case measure => simp [intOf]; omega
    · have hjl : j = ks.length := by omega
      subst hjl
      have hfin : rightDs ks = true := by rw [← hws, List.drop_length, rightDs]
      have HF := Lib.hid (And.intro hfin hbel)
      clear hws hfin hbel
      go_wp2
      go_ret
      exact ⟨by rw [HF.out.1]; rfl, HF.out.2⟩
end Go.Proofs.YtfpiogaakblpeaaDoor
