/- Walk of show.File. -/
import Derived.Test.YtfpiogaakblpeaaDoorShowD
namespace Go.Proofs.YtfpiogaakblpeaaDoor
open Go.RowKit

def showFT (cs : List DT) (d : DT) : List UInt8 := if rightDs cs = true ∧ rightD d = true then showF cs d else []

theorem showCtx_take {ks : List DT} {j : Nat} {k : DT} (h : ks[j]? = some k) : showCtx (ks.take (j + 1)) = if j = 0 then showD k else showCtx (ks.take j) ++ 32 :: showD k := by
  have h2 := showDs_take h
  obtain ⟨hlt, he⟩ := List.getElem?_eq_some_iff.1 h
  cases ks with
  | nil => simp at hlt
  | cons x xs =>
    cases j with
    | zero => simp at he; subst he; simp [showCtx, showDs]
    | succ j =>
      rw [if_neg (by omega)]
      simp only [List.take_succ_cons, showCtx, showDs, List.cons.injEq, true_and] at h2 ⊢
      simpa using h2
theorem showCtx_le {ks : List DT} (j : Nat) : (showCtx (ks.take j)).length ≤ (showCtx ks).length := by
  cases ks with
  | nil => simp [showCtx]
  | cons x xs =>
    cases j with
    | zero => simp [showCtx]
    | succ j =>
      have := showDs_take_le (ks := xs) j
      simp only [List.take_succ_cons, showCtx, List.length_append]; omega
theorem rightDs_take {ks : List DT} {j : Nat} {k : DT} (h : ks[j]? = some k) : rightDs (ks.take (j + 1)) = (rightDs (ks.take j) && rightD k) := by
  obtain ⟨hlt, he⟩ := List.getElem?_eq_some_iff.1 h
  rw [List.take_succ_eq_append_getElem hlt, he, rightDs_iff, rightDs_iff]
  simp
theorem rightDs_of_take {ks : List DT} {j : Nat} (h : rightDs (ks.take j) = false) : rightDs ks = false := by
  rw [rightDs_iff] at *
  rw [Bool.eq_false_iff] at *
  intro h2
  apply h
  rw [List.all_eq_true] at *
  exact fun x hx => h2 x (List.mem_of_mem_take hx)

set_option maxRecDepth 100000 in
set_option maxHeartbeats 4000000 in
theorem showFile_any (cs : List DT) (cv : Value) (r i : Int) (ks : List DT) (v : Value) (w : World) (hcrep : RepK w cs cv) (hrep : RepK w ks v) (hr : In64 r) (hi : In64 i) (ht : Tab w) (hlen : (showF cs (.node r i ks)).length ≤ 70368744177664) :
    Calls Tryd.prog 15 #[fileV cv r i v] w fun e w' => e = .returned (.string ⟨(showFT cs (.node r i ks)).toArray⟩) ∧ Below w.heap.size w w' := by
  obtain ⟨hkl, a, c, rfl⟩ := hrep.form
  obtain ⟨hcl, a2, c2, rfl⟩ := hcrep.form
  unfold maxLen at hcl
  clear hkl
  have HT := Lib.hid ht
  have HR := Lib.hid (And.intro hrep (And.intro hr hi))
  have HC := Lib.hid hcrep
  have hlen2 : 7 + (showCtx cs).length + 2 + (showD (.node r i ks)).length + 2 ≤ 70368744177664 := by
    simp only [showF, List.length_append, fileHead, List.length_cons, List.length_nil] at hlen; omega
  clear ht hrep hr hi hlen hcrep
  unfold fileV
  go_enter Tryd.func15, Tryd.ntmps15
  go_wp2_with fail
  refine (right_any _ r i ks _ _ (Nat.lt_succ_self _) (HR.out.1.kept (below_alloc _ _)) HR.out.2.1 HR.out.2.2).mono ?_
  rintro e w1 ⟨rfl, hb1⟩
  have HB1 : Hid (Below w.heap.size w w1) := Lib.hid ((below_alloc _ _).trans (hb1.mono (by simp)))
  cases hq : rightD (.node r i ks)
  · have HV : Hid (showFT cs (.node r i ks) = []) := Lib.hid (by simp [showFT, hq])
    clear hq hb1
    go_wp2
    go_ret
    exact ⟨by rw [HV.out]; rfl, HB1.out⟩
  · have HQ := Lib.hid hq
    clear hq
    have hbx : w1.heap[w.heap.size]? = some (.cells #[.slice a2 cs.length c2, .int .i64 r, .int .i64 i, .slice a ks.length c] 26 (0, 0)) := by rw [hb1.block _ (by simp)]; exact heap_new _ _ _
    have hlt := (Array.getElem?_eq_some_iff.1 hbx).1
    have c0 : w1.cell? ⟨w.heap.size, 0, none⟩ = some (.slice a2 cs.length c2) := Lib.cell_of_heap hbx 0
    have HBX := Lib.hid hbx
    clear hbx hb1
    go_wp2_with fail
    refine (writeStr fileHead (ShowSt.fresh w1) (by simp [fileHead])).mono ?_
    rintro e w2 ⟨rfl, hs2, ho2⟩
    have hbx2 : w2.heap[w.heap.size]? = some (.cells #[.slice a2 cs.length c2, .int .i64 r, .int .i64 i, .slice a ks.length c] 26 (0, 0)) := OthersKept.box ho2 ((Lib.alloc_old w1 _ _ hlt).trans HBX.out) (by simp; omega) (by decide)
    have HS2 := Lib.hid hs2
    have HBX2 := Lib.hid hbx2
    have c20 : w2.cell? ⟨w.heap.size, 0, none⟩ = some (.slice a2 cs.length c2) := Lib.cell_of_heap hbx2 0
    clear hs2 ho2 hbx2 c0
    go_wp2_with fail
    go_loopw [14] (fun ix wr => ∃ (j : Nat), ix = .int .i64 j ∧ j ≤ cs.length ∧ rightDs (cs.take j) = true ∧ ShowSt w1 w2 w1.heap.size (fileHead ++ showCtx (cs.take j)) wr) (fun i _ => cs.length - (intOf i).toNat)
    case atStart => exact ⟨0, rfl, by omega, rfl, ⟨by simpa [showCtx] using HS2.out.bld, HS2.out.bel, Lib.OthersKept.refl _ _ _⟩⟩
    case round =>
      obtain ⟨j, rfl, hj, hrj, hs⟩ := hrel
      have hbwr : w1.heap.size < wr.heap.size := by rcases hs.bld with h | h <;> exact h.lt
      by_cases hlt2 : j < cs.length
      · obtain ⟨b1, o1, r1, i1, l1, v1, rfl, _, hbs1, hj1, e0, e1, e2, hr1, hi1, hk1⟩ := (HC.out.kept HB1.out).at j hlt2
        obtain ⟨hl1, a1, c1, rfl⟩ := hk1.form
        clear hl1
        have d0 := (hs.bel.cell (p := ⟨b1, o1 + j * 3, none⟩) hbs1).trans e0
        have d1 := (hs.bel.cell (p := ⟨b1, o1 + j * 3 + 1, none⟩) hbs1).trans e1
        have d2 := (hs.bel.cell (p := ⟨b1, o1 + j * 3 + 2, none⟩) hbs1).trans e2
        have htk := showCtx_take hj1
        have hle := showCtx_le (ks := cs) (j + 1)
        have hrt := rightDs_take hj1
        rw [hrj, Bool.true_and] at hrt
        have HK := Lib.hid (And.intro hk1 (And.intro hr1 hi1))
        have HSR := Lib.hid hs
        clear hk1 hr1 hi1 hj1 hs e0 e1 e2 hrj
        go_wp2_with fail
        refine (right_any _ r1 i1 l1 _ _ (Nat.lt_succ_self _) ((HK.out.1.kept HSR.out.bel).kept (below_alloc _ _)) HK.out.2.1 HK.out.2.2).mono ?_
        rintro e w4 ⟨rfl, hb4⟩
        have hbx4 : w4.heap[wr.heap.size]? = some (.cells #[.int .i64 r1, .int .i64 i1, .slice a1 l1.length c1] 24 (0, 0)) := by rw [hb4.block _ (by simp)]; exact heap_new _ _ _
        have HS4 := Lib.hid ((HSR.out.alloc (.cells #[.int .i64 r1, .int .i64 i1, .slice a1 l1.length c1] 24)).below hb4)
        clear hb4
        cases hq4 : rightD (.node r1 i1 l1)
        · have HV : Hid (showFT cs (.node r i ks) = []) := Lib.hid (by
            rw [hq4] at hrt
            simp [showFT, rightDs_of_take hrt])
          clear hq4 hrt htk hbx4
          go_wp2
          go_ret
          exact ⟨by rw [HV.out]; rfl, HB1.out.trans (HS4.out.bel.mono HB1.out.size)⟩
        · rw [hq4] at hrt
          have HRT := Lib.hid hrt
          clear hq4 hrt
          obtain ⟨q0, q1, q2⟩ := box_cells hbx4
          have HBX4 := Lib.hid hbx4
          clear hbx4
          by_cases hj0 : j = 0
          · subst hj0
            simp only [if_true] at htk
            have HTK := Lib.hid htk
            have hle2 : (showD (.node r1 i1 l1)).length ≤ (showCtx cs).length := by rw [← htk]; exact hle
            clear htk hle
            go_wp2_with fail
            refine (show_all _ r1 i1 l1 _ w1 _ w1.heap.size _ (Nat.lt_succ_self _) HK.out.1 HK.out.2.1 HK.out.2.2 (HT.out.below HB1.out) ⟨HS4.out.bld, HS4.out.bel, Lib.OthersKept.refl _ _ _⟩ (by simp [showCtx, fileHead]; omega)).mono ?_
            rintro e w6 ⟨rfl, hs6⟩
            have hs7 : ShowSt w1 w2 w1.heap.size (fileHead ++ showCtx (cs.take (0 + 1))) w6 := by
              refine ⟨?_, hs6.bel, HS4.out.oth.trans hs6.oth⟩
              have := hs6.bld
              rw [HTK.out]
              simpa [showCtx] using this
            have HS7 := Lib.hid hs7
            clear hs6 hs7
            go_wp2
            go_round
            case rel => exact ⟨0 + 1, by go_num, by omega, HRT.out, HS7.out⟩
            case measure => simp [intOf]; omega
          · have hj1 : (0 : Int) < (j : Int) := by omega
            rw [if_neg hj0] at htk
            have HTK := Lib.hid htk
            have hle2 : (showCtx (cs.take j)).length + 1 + (showD (.node r1 i1 l1)).length ≤ (showCtx cs).length := by rw [htk] at hle; simp at hle; omega
            have hnb : some wr.heap.size ≠ some w1.heap.size := by simp; omega
            have HNB := Lib.hid hnb
            clear htk hle hnb
            go_wp2_with fail
            refine (writeByt 32 32 rfl HS4.out (by simp [fileHead]; omega)).mono ?_
            rintro e w5 ⟨rfl, hs5, ho5⟩
            have hbx5 := OthersKept.box ho5 HBX4.out HNB.out neDU
            have HS5 := Lib.hid hs5
            clear q0 q1 q2
            obtain ⟨q0, q1, q2⟩ := box_cells hbx5
            clear hs5 ho5 hbx5
            go_wp2_with fail
            refine (show_all _ r1 i1 l1 _ w1 _ w1.heap.size _ (Nat.lt_succ_self _) HK.out.1 HK.out.2.1 HK.out.2.2 (HT.out.below HB1.out) ⟨HS5.out.bld, HS5.out.bel, Lib.OthersKept.refl _ _ _⟩ (by simp [fileHead]; omega)).mono ?_
            rintro e w6 ⟨rfl, hs6⟩
            have hs7 : ShowSt w1 w2 w1.heap.size (fileHead ++ showCtx (cs.take (j + 1))) w6 := by
              refine ⟨?_, hs6.bel, HS5.out.oth.trans hs6.oth⟩
              have := hs6.bld
              rw [HTK.out]
              simpa using this
            have HS7 := Lib.hid hs7
            clear hs6 hs7
            go_wp2
            go_round
            case rel => exact ⟨j + 1, by go_num, by omega, HRT.out, HS7.out⟩
            case measure => simp [intOf]; omega
      · have hjl : j = cs.length := by omega
        subst hjl
        rw [List.take_of_length_le (Nat.le_refl _)] at hrj hs
        have HV : Hid (showFT cs (.node r i ks) = showF cs (.node r i ks)) := Lib.hid (by simp [showFT, hrj, HQ.out])
        have hbxr : wr.heap[w.heap.size]? = some (.cells #[.slice a2 cs.length c2, .int .i64 r, .int .i64 i, .slice a ks.length c] 26 (0, 0)) := OthersKept.box hs.oth HBX2.out (by simp; omega) (by decide)
        have HSR := Lib.hid hs
        have HBXR := Lib.hid hbxr
        have HNB : Hid (some w.heap.size ≠ some w1.heap.size) := Lib.hid (by simp; omega)
        clear hs hrj hbxr c20
        go_wp2_with fail
        refine (writeStr [41, 32] HSR.out (by simp [fileHead]; omega)).mono ?_
        rintro e w5 ⟨rfl, hs5, ho5⟩
        have hbx5 := OthersKept.box ho5 HBXR.out HNB.out (by decide)
        have HS5 := Lib.hid hs5
        have c51 : w5.cell? ⟨w.heap.size, 1, none⟩ = some (.int .i64 r) := Lib.cell_of_heap hbx5 1
        have c52 : w5.cell? ⟨w.heap.size, 2, none⟩ = some (.int .i64 i) := Lib.cell_of_heap hbx5 2
        have c53 : w5.cell? ⟨w.heap.size, 3, none⟩ = some (.slice a ks.length c) := Lib.cell_of_heap hbx5 3
        clear hs5 ho5 hbx5
        go_wp2_with fail
        refine (show_all _ r i ks _ w1 _ w1.heap.size _ (Nat.lt_succ_self _) (HR.out.1.kept HB1.out) HR.out.2.1 HR.out.2.2 (HT.out.below HB1.out) ⟨HS5.out.bld, HS5.out.bel, Lib.OthersKept.refl _ _ _⟩ (by simp [fileHead]; omega)).mono ?_
        rintro e w6 ⟨rfl, hs6⟩
        have HS6 := Lib.hid hs6
        clear hs6
        go_wp2_with fail
        refine (writeStr [41, 10] HS6.out (by simp [fileHead]; omega)).mono ?_
        rintro e w7 ⟨rfl, hs7, ho7⟩
        have HS7 := Lib.hid hs7
        clear hs7 ho7
        go_wp2_with fail
        refine (stringOf HS7.out).mono ?_
        rintro e w8 ⟨rfl, hb8⟩
        have HB8 := Lib.hid hb8
        clear hb8
        go_wp2
        go_ret
        exact ⟨by rw [HV.out]; simp [showF], HB1.out.trans ((HS7.out.bel.trans HB8.out).mono HB1.out.size)⟩
end Go.Proofs.YtfpiogaakblpeaaDoor
