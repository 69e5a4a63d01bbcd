/- Walks of term.right, Right. -/
import Derived.Test.YtefjgpahgffmfaaDoorTnu
import Derived.Test.YtefjgpahgffmfaaDoorTs
import Derived.Test.YtefjgpahgffmfaaDoorFamT
namespace Go.Proofs.YtefjgpahgffmfaaDoor
open Go.RowKit

theorem rightTs_cons {k : Int} : ∀ {ks : List TT} {x y : Nat} {t : TT}, ks[y]? = some t → rightTs k (x + y) (ks.drop y) = (rightT t (ofK k (x + y)) && rightTs k (x + (y + 1)) (ks.drop (y + 1))) := by
  intro ks x y t h
  obtain ⟨hlt, he⟩ := List.getElem?_eq_some_iff.1 h
  rw [List.drop_eq_getElem_cons hlt, he, rightTs]
  rfl

/-- the four numbers of a term -/
def In4 (k i j n : Int) : Prop := In64 k ∧ In64 i ∧ In64 j ∧ In64 n
theorem sortK_in (k : Int) : sortK k = 0 ∨ sortK k = 1 ∨ sortK k = 2 := by
  unfold sortK
  split
  · exact .inl rfl
  · split
    · exact .inr (.inl rfl)
    · exact .inr (.inr rfl)

set_option maxRecDepth 100000 in
set_option maxHeartbeats 4000000 in
theorem right_any : ∀ (N : Nat) (k i j n : Int) (ks : List TT) (v : Value) (want : Int) (w : World), SizeOf.sizeOf (TT.node k i j n ks) < N → RepT w ks v →
    Calls Tryd.prog 52 #[termV k i j n v, .int .i64 want] w fun e w' => e = .returned (.bool (rightT (.node k i j n ks) want)) ∧ Below w.heap.size w w' := by
  intro N
  induction N with
  | zero => intro k i j n ks v want w h; omega
  | succ N ih =>
    intro k i j n ks v want w hN hrep
    obtain ⟨hlen, a, c, rfl⟩ := hrep.form
    unfold maxLen at hlen
    have HR := Lib.hid hrep
    clear hrep
    have HV : Hid (rightT (.node k i j n ks) want = (!(want != 0 && sortK k != 0 && sortK k != want) && (ks.length : Int) == kidsK k n && numbersB k i j n && rightTs k 0 ks)) := Lib.hid (by simp only [rightT])
    generalize hrt : rightT (.node k i j n ks) want = rt at HV
    clear hrt
    have HK4 : Hid (∀ x : Nat, ofK k x = if k = 12 ∧ x = 2 then 2 else sortK k) := Lib.hid (fun x => rfl)
    unfold termV
    have HB0 : Hid (Below (w.heap.size + 1) (w.alloc (.cells #[.int .i64 k, .int .i64 i, .int .i64 j, .int .i64 n, .slice a ks.length c] 24)) (w.alloc (.cells #[.int .i64 k, .int .i64 i, .int .i64 j, .int .i64 n, .slice a ks.length c] 24))) := Lib.hid (Below.refl _ _)
    cases hg : (want != 0 && sortK k != 0 && sortK k != want) with
    | true =>
      have HW : Hid (rt = false) := Lib.hid (by rw [HV.out, hg]; rfl)
      simp only [Bool.and_eq_true] at hg
      obtain ⟨⟨g1, g2⟩, g3⟩ := hg
      clear HV
      go_enter Tryd.func52, Tryd.ntmps52
      go_wp2_with fail
      refine (sort_any k _).mono ?_
      rintro e w1 ⟨rfl, rfl⟩
      go_wp2
      go_ret
      exact ⟨by rw [HW.out]; rfl, below_alloc _ _⟩
    | false =>
      have hg3 : (want != 0) = false ∨ (want != 0) = true ∧ ((sortK k != 0) = false ∨ (sortK k != 0) = true ∧ (sortK k != want) = false) := by
        cases h1 : (want != 0)
        · exact .inl rfl
        · refine .inr ⟨rfl, ?_⟩
          cases h2 : (sortK k != 0)
          · exact .inl rfl
          · refine .inr ⟨rfl, ?_⟩
            rw [h1, h2] at hg
            simpa using hg
      rw [hg] at HV
      clear hg
      by_cases hl : (ks.length : Int) = kidsK k n
      case neg =>
        have HW : Hid (rt = false) := Lib.hid (by rw [HV.out]; simp [hl])
        have hne : ((ks.length : Int) != kidsK k n) = true := by simp [hl]
        clear HV hl
        rcases hg3 with g1 | ⟨g1, g2 | ⟨g2, g3⟩⟩
        all_goals
          go_enter Tryd.func52, Tryd.ntmps52
          go_wp2_with fail
          refine (sort_any k _).mono ?_
          rintro e w1 ⟨rfl, rfl⟩
          go_wp2_with fail
          obtain ⟨σ, f, hnem, hf, hcov⟩ := fam (w.heap.size + 1) (w.alloc (.cells #[.int .i64 k, .int .i64 i, .int .i64 j, .int .i64 n, .slice a ks.length c] 24)) (by simp)
          have hc0 : ∀ s, (f s).cell? ⟨w.heap.size, 0, none⟩ = some (.int .i64 k) := fun s => box_cell (hf s).1 0 (by simp)
          have hc1 : ∀ s, (f s).cell? ⟨w.heap.size, 1, none⟩ = some (.int .i64 i) := fun s => box_cell (hf s).1 1 (by simp)
          have hc2 : ∀ s, (f s).cell? ⟨w.heap.size, 2, none⟩ = some (.int .i64 j) := fun s => box_cell (hf s).1 2 (by simp)
          have hc3 : ∀ s, (f s).cell? ⟨w.heap.size, 3, none⟩ = some (.int .i64 n) := fun s => box_cell (hf s).1 3 (by simp)
          have hc4 : ∀ s, (f s).cell? ⟨w.heap.size, 4, none⟩ = some (.slice a ks.length c) := fun s => box_cell (hf s).1 4 (by simp)
          have HF := Lib.hid hf
          have HCOV := Lib.hid hcov
          clear hf hcov
          refine wp_region_fam_lit f (by kernel_rfl) (by kernel_rfl) (HCOV.out _ (Below.refl _ _).drew) ?_
          repeat (go_big_quiet_step ((first
            | (go_at_call 79; exact calls_fam_same (kidsK_any _ _ _))
            | (go_at_call 80; exact calls_fam HF.out HCOV.out (numbers_any _ _ _ _ _ _ _ _)))))
          refine wpQuiet_nil ?_
          rintro _ ⟨s, rfl⟩
          have HFS := Lib.hid (HF.out s)
          clear HF HCOV hc0 hc1 hc2 hc3 hc4
          generalize f s = wf at HFS
          go_wp2
          go_ret
          exact ⟨by rw [HW.out]; rfl, below_of_box HFS.out.1⟩
      have hne : ((ks.length : Int) != kidsK k n) = false := by simp [hl]
      have HV2 : Hid (rt = (numbersB k i j n && rightTs k 0 ks)) := Lib.hid (by rw [HV.out]; simp [hl])
      clear HV hl
      rcases hg3 with g1 | ⟨g1, g2 | ⟨g2, g3⟩⟩
      all_goals
        go_enter Tryd.func52, Tryd.ntmps52
        go_wp2_with fail
        refine (sort_any k _).mono ?_
        rintro e w1 ⟨rfl, rfl⟩
        go_wp2_with fail
        obtain ⟨σ, f, hnem, hf, hcov⟩ := fam (w.heap.size + 1) (w.alloc (.cells #[.int .i64 k, .int .i64 i, .int .i64 j, .int .i64 n, .slice a ks.length c] 24)) (by simp)
        have hc0 : ∀ s, (f s).cell? ⟨w.heap.size, 0, none⟩ = some (.int .i64 k) := fun s => box_cell (hf s).1 0 (by simp)
        have hc1 : ∀ s, (f s).cell? ⟨w.heap.size, 1, none⟩ = some (.int .i64 i) := fun s => box_cell (hf s).1 1 (by simp)
        have hc2 : ∀ s, (f s).cell? ⟨w.heap.size, 2, none⟩ = some (.int .i64 j) := fun s => box_cell (hf s).1 2 (by simp)
        have hc3 : ∀ s, (f s).cell? ⟨w.heap.size, 3, none⟩ = some (.int .i64 n) := fun s => box_cell (hf s).1 3 (by simp)
        have hc4 : ∀ s, (f s).cell? ⟨w.heap.size, 4, none⟩ = some (.slice a ks.length c) := fun s => box_cell (hf s).1 4 (by simp)
        have HF := Lib.hid hf
        have HCOV := Lib.hid hcov
        clear hf hcov
        refine wp_region_fam_lit f (by kernel_rfl) (by kernel_rfl) (HCOV.out _ (Below.refl _ _).drew) ?_
        repeat (go_big_quiet_step ((first
          | (go_at_call 79; exact calls_fam_same (kidsK_any _ _ _))
          | (go_at_call 80; exact calls_fam HF.out HCOV.out (numbers_any _ _ _ _ _ _ _ _)))))
        refine wpQuiet_nil ?_
        rintro _ ⟨s, rfl⟩
        have HFS := Lib.hid (HF.out s)
        clear HF HCOV hc0 hc1 hc2 hc3 hc4
        generalize f s = wf at HFS
        have d0 : wf.cell? ⟨w.heap.size, 0, none⟩ = some (.int .i64 k) := box_cell HFS.out.1 0 (by simp)
        have d4 : wf.cell? ⟨w.heap.size, 4, none⟩ = some (.slice a ks.length c) := box_cell HFS.out.1 4 (by simp)
        cases hnb : numbersB k i j n
        · have HW : Hid (rt = false) := Lib.hid (by rw [HV2.out, hnb]; rfl)
          clear hnb
          go_wp2
          go_ret
          exact ⟨by rw [HW.out]; rfl, below_of_box HFS.out.1⟩
        have HW : Hid (rt = rightTs k 0 ks) := Lib.hid (by rw [HV2.out, hnb]; rfl)
        clear hnb
        simp only [Bool.not_true]
        go_wp2_with fail
        go_loopw [40] (fun ix wr => ∃ (q : Nat), ix = .int .i64 q ∧ q ≤ ks.length ∧ rightTs k q (ks.drop q) = rightTs k 0 ks ∧ Below (w.heap.size + 1) (w.alloc (.cells #[.int .i64 k, .int .i64 i, .int .i64 j, .int .i64 n, .slice a ks.length c] 24)) wr) (fun i _ => ks.length - (intOf i).toNat)
        case atStart => exact ⟨0, rfl, by omega, rfl, HFS.out.1⟩
        case round =>
          obtain ⟨q, rfl, hq, hws, hbel⟩ := hrel
          have hB := below_of_box hbel
          have hsz : w.heap.size + 1 ≤ wr.heap.size := by simpa using hbel.size
          have c0 : wr.cell? ⟨w.heap.size, 0, none⟩ = some (.int .i64 k) := by rw [box_cell hbel 0 (by simp)]; rfl
          by_cases hlt : q < ks.length
          · obtain ⟨b, o, k1, i1, j1, n1, l1, v1, rfl, _, hbs, hj1, e0, e1, e2, e3, e4, hr1, hk1⟩ := (HR.out.kept hB).at q hlt
            obtain ⟨hl1, a1, c1, rfl⟩ := hk1.form
            clear hl1
            have c0b : (wr.alloc (.cells #[.int .i64 k1, .int .i64 i1, .int .i64 j1, .int .i64 n1, .slice a1 l1.length c1] 24)).cell? ⟨w.heap.size, 0, none⟩ = some (.int .i64 k) := ((below_alloc wr _).cell (p := ⟨w.heap.size, 0, none⟩) (by show w.heap.size < _; omega)).trans c0
            have hd := rightTs_cons (k := k) (x := 0) hj1
            simp only [Nat.zero_add] at hd
            rw [hws] at hd
            have hlt1 := TT.lt hj1 k i j n
            have HS := Lib.hid (And.intro hd hk1)
            have HB := Lib.hid (And.intro hbel hB)
            have hof := HK4.out q
            have hcs : (k == 12) = true ∧ ((q : Int) == 2) = true ∧ ofK k q = 2 ∨ (k == 12) = true ∧ ((q : Int) == 2) = false ∧ ofK k q = sortK k ∨ (k == 12) = false ∧ ofK k q = sortK k := by
              by_cases g1 : k = 12
              · by_cases g2 : q = 2
                · exact .inl ⟨by simp [g1], by simp [g2], by rw [hof, if_pos ⟨g1, g2⟩]⟩
                · exact .inr (.inl ⟨by simp [g1], by simp; omega, by rw [hof, if_neg (by omega)]⟩)
              · exact .inr (.inr ⟨by simp [g1], by rw [hof, if_neg (by omega)]⟩)
            clear hws hk1 hr1 hj1 hbel hB hd hof
            rcases hcs with ⟨g5, g6, g7⟩ | ⟨g5, g6, g7⟩ | ⟨g5, g7⟩
            · have HS1 : Hid (rightTs k 0 ks = (rightT (.node k1 i1 j1 n1 l1) 2 && rightTs k (q + 1) (ks.drop (q + 1)))) := Lib.hid (by rw [← g7]; exact HS.out.1)
              clear g7
              go_wp2_with fail
              refine (ih k1 i1 j1 n1 l1 _ _ _ (by omega) (HS.out.2.kept (below_alloc _ _))).mono ?_
              rintro e w2 ⟨rfl, hb2⟩
              have hb3 : Below (w.heap.size + 1) wr w2 := ((Below.refl _ _).alloc hsz _).trans (hb2.mono (by simp; omega))
              have HB2 := Lib.hid hb3
              clear hb2 hb3
              cases hrd : rightT (.node k1 i1 j1 n1 l1) 2
              · have hfin : rightTs k 0 ks = false := by rw [HS1.out, hrd]; rfl
                have HF := Lib.hid hfin
                clear hfin
                go_wp2
                go_ret
                exact ⟨by rw [HW.out, HF.out]; rfl, HB.out.2.trans (HB2.out.mono (Nat.le_succ _))⟩
              · have hfin : rightTs k (q + 1) (ks.drop (q + 1)) = rightTs k 0 ks := by rw [HS1.out, hrd]; rfl
                have HF := Lib.hid hfin
                clear hfin
                go_wp2
                go_roundw
                case rel => exact ⟨q + 1, by go_num, by omega, HF.out, HB.out.1.trans HB2.out⟩
                case measure => simp [intOf]; omega
            · have HS1 : Hid (rightTs k 0 ks = (rightT (.node k1 i1 j1 n1 l1) (sortK k) && rightTs k (q + 1) (ks.drop (q + 1)))) := Lib.hid (by rw [← g7]; exact HS.out.1)
              clear g7
              go_wp2_with fail
              refine (ih k1 i1 j1 n1 l1 _ _ _ (by omega) (HS.out.2.kept (below_alloc _ _))).mono ?_
              rintro e w2 ⟨rfl, hb2⟩
              have hb3 : Below (w.heap.size + 1) wr w2 := ((Below.refl _ _).alloc hsz _).trans (hb2.mono (by simp; omega))
              have HB2 := Lib.hid hb3
              clear hb2 hb3
              cases hrd : rightT (.node k1 i1 j1 n1 l1) (sortK k)
              · have hfin : rightTs k 0 ks = false := by rw [HS1.out, hrd]; rfl
                have HF := Lib.hid hfin
                clear hfin
                go_wp2
                go_ret
                exact ⟨by rw [HW.out, HF.out]; rfl, HB.out.2.trans (HB2.out.mono (Nat.le_succ _))⟩
              · have hfin : rightTs k (q + 1) (ks.drop (q + 1)) = rightTs k 0 ks := by rw [HS1.out, hrd]; rfl
                have HF := Lib.hid hfin
                clear hfin
                go_wp2
                go_roundw
                case rel => exact ⟨q + 1, by go_num, by omega, HF.out, HB.out.1.trans HB2.out⟩
                case measure => simp [intOf]; omega
            · have HS1 : Hid (rightTs k 0 ks = (rightT (.node k1 i1 j1 n1 l1) (sortK k) && rightTs k (q + 1) (ks.drop (q + 1)))) := Lib.hid (by rw [← g7]; exact HS.out.1)
              clear g7
              go_wp2_with fail
              refine (ih k1 i1 j1 n1 l1 _ _ _ (by omega) (HS.out.2.kept (below_alloc _ _))).mono ?_
              rintro e w2 ⟨rfl, hb2⟩
              have hb3 : Below (w.heap.size + 1) wr w2 := ((Below.refl _ _).alloc hsz _).trans (hb2.mono (by simp; omega))
              have HB2 := Lib.hid hb3
              clear hb2 hb3
              cases hrd : rightT (.node k1 i1 j1 n1 l1) (sortK k)
              · have hfin : rightTs k 0 ks = false := by rw [HS1.out, hrd]; rfl
                have HF := Lib.hid hfin
                clear hfin
                go_wp2
                go_ret
                exact ⟨by rw [HW.out, HF.out]; rfl, HB.out.2.trans (HB2.out.mono (Nat.le_succ _))⟩
              · have hfin : rightTs k (q + 1) (ks.drop (q + 1)) = rightTs k 0 ks := by rw [HS1.out, hrd]; rfl
                have HF := Lib.hid hfin
                clear hfin
                go_wp2
                go_roundw
                case rel => exact ⟨q + 1, by go_num, by omega, HF.out, HB.out.1.trans HB2.out⟩
                case measure => simp [intOf]; omega
          · have hjl : q = ks.length := by omega
            subst hjl
            have hfin : rightTs k 0 ks = true := by rw [← hws, List.drop_length, rightTs]
            have HF := Lib.hid (And.intro hfin hB)
            clear hws hfin hbel hB
            go_wp2
            go_ret
            exact ⟨by rw [HW.out, HF.out.1]; rfl, HF.out.2⟩

theorem termRight_any (k i j n : Int) (ks : List TT) (v : Value) (w : World) (hrep : RepT w ks v) :
    Calls Tryd.prog 33 #[termV k i j n v] w fun e w' => e = .returned (.bool (rightT (.node k i j n ks) 0)) ∧ Below w.heap.size w w' := by
  obtain ⟨hlen, a, c, rfl⟩ := hrep.form
  clear hlen
  have HR := Lib.hid hrep
  clear hrep
  unfold termV
  go_enter Tryd.func33, Tryd.ntmps33
  go_wp2_with fail
  refine (right_any _ k i j n ks _ _ _ (Nat.lt_succ_self _) (HR.out.kept (below_alloc _ _))).mono ?_
  rintro e w1 ⟨rfl, hb1⟩
  have HB1 := Lib.hid ((below_alloc w (.cells #[.int .i64 k, .int .i64 i, .int .i64 j, .int .i64 n, .slice a ks.length c] 24)).trans (hb1.mono (by simp)))
  clear hb1
  go_wp2
  go_ret
  exact ⟨rfl, HB1.out⟩
end Go.Proofs.YtefjgpahgffmfaaDoor
