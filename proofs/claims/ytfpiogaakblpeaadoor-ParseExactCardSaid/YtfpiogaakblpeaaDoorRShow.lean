/- Walks of transhipref11.show, Show, ShowFile. -/
import Derived.Test.YtfpiogaakblpeaaDoorRRight
import Derived.Test.YtfpiogaakblpeaaDoorShowF
import Derived.Test.YtfpiogaakblpeaaDoorRefPut
namespace Go.Proofs.YtfpiogaakblpeaaDoor
open Go.RowKit

def RShowC (N : Nat) : Prop := ∀ (r i : Int) (ks : List DT) (v : Value) (w : World), SizeOf.sizeOf (DT.node r i ks) < N → RepK w ks v → In64 r → In64 i → (showD (.node r i ks)).length ≤ 70368744177664 →
  Calls Tryd.prog 33 #[derivV r i v] w fun e w' => e = .returned (.string ⟨(showD (.node r i ks)).toArray⟩) ∧ Below w.heap.size w w'

set_option maxRecDepth 100000 in
set_option maxHeartbeats 4000000 in
theorem rshow_step (N : Nat) (ih : RShowC N) : RShowC (N + 1) := by
  intro r i ks v w hN hrep hr hi hlen
  have hhd := showD_head r i ks
  have hlen2 : (showHead r i).length + (showDs ks).length + 1 ≤ 70368744177664 := by
    rw [hhd] at hlen; simp at hlen; omega
  have hw1 := wordI_le r
  clear hlen hhd
  obtain ⟨hkl, a, c, rfl⟩ := hrep.form
  unfold maxLen at hkl
  have HR := Lib.hid (And.intro hrep (And.intro hr hi))
  have HHD := Lib.hid (showD_head r i ks)
  clear hrep hr hi
  have E40 : Hid ((ByteArray.mk #[40]) ++ (ByteArray.mk (wordI r).toArray) = ⟨(40 :: wordI r).toArray⟩) := Lib.hid (str_append [40] (wordI r))
  have E32 : Hid ((ByteArray.mk (40 :: wordI r).toArray) ++ (ByteArray.mk #[32]) ++ (ByteArray.mk (Lib.itoa i).toArray) = ⟨((40 :: wordI r) ++ (32 :: Lib.itoa i)).toArray⟩) := Lib.hid (by
    have h1 := str_append (40 :: wordI r) [32]
    have h2 := str_append ((40 :: wordI r) ++ [32]) (Lib.itoa i)
    refine (congrArg (· ++ _) h1).trans (h2.trans ?_)
    simp)
  have HH1 : Hid (numbered r = true → showHead r i = (40 :: wordI r) ++ (32 :: Lib.itoa i)) := Lib.hid (fun h => by
    have : r = 1 ∨ r = 2 := by simpa [numbered] using h
    simp [showHead, this])
  have HH2 : Hid (numbered r = false → showHead r i = 40 :: wordI r) := Lib.hid (fun h => by
    have : ¬ (r = 1 ∨ r = 2) := by simpa [numbered] using h
    simp [showHead, this])
  unfold derivV
  cases hnum : numbered r
  · go_enter Tryd.func33, Tryd.ntmps33
    go_wp2_with fail
    refine (rword_any r _ HR.out.2.1).mono ?_
    rintro e w1 ⟨rfl, hb1⟩
    have hbel1 : Below (w.heap.size + 1) (w.alloc (.cells #[.int .i64 r, .int .i64 i, .slice a ks.length c] 24)) w1 := by simpa using hb1
    have HB1 := Lib.hid hbel1
    have c10 : w1.cell? ⟨w.heap.size, 0, none⟩ = some (.int .i64 r) := box_cell hbel1 0 (by simp)
    have c11 : w1.cell? ⟨w.heap.size, 1, none⟩ = some (.int .i64 i) := box_cell hbel1 1 (by simp)
    have c12 : w1.cell? ⟨w.heap.size, 2, none⟩ = some (.slice a ks.length c) := box_cell hbel1 2 (by simp)
    clear hb1 hbel1
    go_wp2_with fail
    rw [E40.out]
    refine (numbered_any _ _).mono ?_
    rintro e w2 ⟨rfl, rfl⟩
    have HB3 := HB1
    have HHE := Lib.hid (HH2.out hnum)
    go_wp2_with fail
    rw [← HHE.out]
    go_loopw [3, 4] (fun sx ix wr => ∃ (j : Nat), ix = .int .i64 j ∧ sx = .string ⟨(showHead r i ++ showDs (ks.take j)).toArray⟩ ∧ j ≤ ks.length ∧ Below (w.heap.size + 1) (w.alloc (.cells #[.int .i64 r, .int .i64 i, .slice a ks.length c] 24)) wr) (fun _ i _ => ks.length - (intOf i).toNat)
    case atStart => exact ⟨0, rfl, by simp [showDs], by omega, HB3.out⟩
    case round =>
      obtain ⟨j, rfl, rfl, hj, hbel⟩ := hrel
      have hB := below_of_box hbel
      have hsz : w.heap.size + 1 ≤ wr.heap.size := by simpa using hbel.size
      have hc2 : wr.cell? ⟨w.heap.size, 2, none⟩ = some (.slice a ks.length c) := by rw [box_cell hbel 2 (by simp)]; rfl
      by_cases hlt : j < ks.length
      · obtain ⟨b, o, r1, i1, l1, v1, rfl, _, hbs, hj1, e0, e1, e2, hr1, hi1, hk1⟩ := (HR.out.1.kept hB).at j hlt
        have htk := showDs_take hj1
        have hle := showDs_take_le (ks := ks) (j + 1)
        rw [htk] at hle
        simp only [List.length_append, List.length_cons] at hle
        have hlt1 := DT.lt hj1 r i
        have HS := Lib.hid (And.intro hk1 (And.intro hr1 hi1))
        have HB := Lib.hid (And.intro hbel hB)
        have E1 := Lib.hid (str_append (showHead r i ++ showDs (ks.take j)) [32])
        have E2 := Lib.hid (str_append (showHead r i ++ showDs (ks.take j) ++ [32]) (showD (.node r1 i1 l1)))
        have HTK : Hid (showHead r i ++ showDs (ks.take j) ++ [32] ++ showD (.node r1 i1 l1) = showHead r i ++ showDs (ks.take (j + 1))) := Lib.hid (by rw [htk]; simp)
        clear hk1 hr1 hi1 hj1 hbel hB htk
        go_wp2_with fail
        refine (ih r1 i1 l1 _ _ (by omega) HS.out.1 HS.out.2.1 HS.out.2.2 (by omega)).mono ?_
        rintro e w5 ⟨rfl, hb5⟩
        have HB5 := Lib.hid (hb5.mono hsz)
        clear hb5
        go_wp2
        go_round
        case rel => exact ⟨j + 1, by go_num, congrArg Value.string ((congrArg (· ++ _) E1.out).trans (E2.out.trans (by rw [HTK.out]))), by omega, HB.out.1.trans HB5.out⟩
        case measure => simp [intOf]; omega
      · have hjl : j = ks.length := by omega
        subst hjl
        rw [List.take_of_length_le (Nat.le_refl _)]
        have HB := Lib.hid hB
        have E1 := Lib.hid (str_append (showHead r i ++ showDs ks) [41])
        clear hB hbel
        go_wp2
        go_ret
        exact ⟨by rw [HHD.out]; exact congrArg (fun s => Ending.returned (.string s)) E1.out, HB.out⟩
  · go_enter Tryd.func33, Tryd.ntmps33
    go_wp2_with fail
    refine (rword_any r _ HR.out.2.1).mono ?_
    rintro e w1 ⟨rfl, hb1⟩
    have hbel1 : Below (w.heap.size + 1) (w.alloc (.cells #[.int .i64 r, .int .i64 i, .slice a ks.length c] 24)) w1 := by simpa using hb1
    have HB1 := Lib.hid hbel1
    have c10 : w1.cell? ⟨w.heap.size, 0, none⟩ = some (.int .i64 r) := box_cell hbel1 0 (by simp)
    have c11 : w1.cell? ⟨w.heap.size, 1, none⟩ = some (.int .i64 i) := box_cell hbel1 1 (by simp)
    have c12 : w1.cell? ⟨w.heap.size, 2, none⟩ = some (.slice a ks.length c) := box_cell hbel1 2 (by simp)
    clear hb1 hbel1
    go_wp2_with fail
    rw [E40.out]
    refine (numbered_any _ _).mono ?_
    rintro e w2 ⟨rfl, rfl⟩
    have HHE := Lib.hid (HH1.out hnum)
    have hhl2 : (showHead r i).length = 1 + (wordI r).length + (1 + (Lib.itoa i).length) := by rw [HHE.out]; simp; omega
    have hil : (Lib.itoa i).length ≤ 70368744177664 := by omega
    clear hhl2
    go_wp2_with fail
    refine (refput_any i _ HR.out.2.2.1 HR.out.2.2.2).mono ?_
    rintro e w3 ⟨rfl, hb3⟩
    have hbel3 : Below (w.heap.size + 1) (w.alloc (.cells #[.int .i64 r, .int .i64 i, .slice a ks.length c] 24)) w3 := HB1.out.trans (hb3.mono (by have := HB1.out.size; simpa using this))
    have HB3 := Lib.hid hbel3
    clear hb3 hbel3
    go_wp2_with fail
    rw [E32.out, ← HHE.out]
    go_loopw [3, 4] (fun sx ix wr => ∃ (j : Nat), ix = .int .i64 j ∧ sx = .string ⟨(showHead r i ++ showDs (ks.take j)).toArray⟩ ∧ j ≤ ks.length ∧ Below (w.heap.size + 1) (w.alloc (.cells #[.int .i64 r, .int .i64 i, .slice a ks.length c] 24)) wr) (fun _ i _ => ks.length - (intOf i).toNat)
    case atStart => exact ⟨0, rfl, by simp [showDs], by omega, HB3.out⟩
    case round =>
      obtain ⟨j, rfl, rfl, hj, hbel⟩ := hrel
      have hB := below_of_box hbel
      have hsz : w.heap.size + 1 ≤ wr.heap.size := by simpa using hbel.size
      have hc2 : wr.cell? ⟨w.heap.size, 2, none⟩ = some (.slice a ks.length c) := by rw [box_cell hbel 2 (by simp)]; rfl
      by_cases hlt : j < ks.length
      · obtain ⟨b, o, r1, i1, l1, v1, rfl, _, hbs, hj1, e0, e1, e2, hr1, hi1, hk1⟩ := (HR.out.1.kept hB).at j hlt
        have htk := showDs_take hj1
        have hle := showDs_take_le (ks := ks) (j + 1)
        rw [htk] at hle
        simp only [List.length_append, List.length_cons] at hle
        have hlt1 := DT.lt hj1 r i
        have HS := Lib.hid (And.intro hk1 (And.intro hr1 hi1))
        have HB := Lib.hid (And.intro hbel hB)
        have E1 := Lib.hid (str_append (showHead r i ++ showDs (ks.take j)) [32])
        have E2 := Lib.hid (str_append (showHead r i ++ showDs (ks.take j) ++ [32]) (showD (.node r1 i1 l1)))
        have HTK : Hid (showHead r i ++ showDs (ks.take j) ++ [32] ++ showD (.node r1 i1 l1) = showHead r i ++ showDs (ks.take (j + 1))) := Lib.hid (by rw [htk]; simp)
        clear hk1 hr1 hi1 hj1 hbel hB htk
        go_wp2_with fail
        refine (ih r1 i1 l1 _ _ (by omega) HS.out.1 HS.out.2.1 HS.out.2.2 (by omega)).mono ?_
        rintro e w5 ⟨rfl, hb5⟩
        have HB5 := Lib.hid (hb5.mono hsz)
        clear hb5
        go_wp2
        go_round
        case rel => exact ⟨j + 1, by go_num, congrArg Value.string ((congrArg (· ++ _) E1.out).trans (E2.out.trans (by rw [HTK.out]))), by omega, HB.out.1.trans HB5.out⟩
        case measure => simp [intOf]; omega
      · have hjl : j = ks.length := by omega
        subst hjl
        rw [List.take_of_length_le (Nat.le_refl _)]
        have HB := Lib.hid hB
        have E1 := Lib.hid (str_append (showHead r i ++ showDs ks) [41])
        clear hB hbel
        go_wp2
        go_ret
        exact ⟨by rw [HHD.out]; exact congrArg (fun s => Ending.returned (.string s)) E1.out, HB.out⟩

theorem rshow_all : ∀ N, RShowC N
  | 0 => fun _ _ _ _ _ h => absurd h (Nat.not_lt_zero _)
  | N + 1 => rshow_step N (rshow_all N)

set_option maxRecDepth 100000 in
set_option maxHeartbeats 1000000 in
theorem rShow_any (r i : Int) (ks : List DT) (v : Value) (w : World) (hrep : RepK w ks v) (hr : In64 r) (hi : In64 i) (hlen : (showD (.node r i ks)).length ≤ 70368744177664) :
    Calls Tryd.prog 14 #[derivV r i v] w fun e w' => e = .returned (.string ⟨(showT (.node r i ks)).toArray⟩) ∧ Below w.heap.size w w' := by
  obtain ⟨hkl, a, c, rfl⟩ := hrep.form
  clear hkl
  have HR := Lib.hid (And.intro hrep (And.intro hr hi))
  have HL := Lib.hid hlen
  clear hrep hr hi hlen
  unfold derivV
  go_enter Tryd.func14, Tryd.ntmps14
  go_wp2_with fail
  refine (rright_any _ r i ks _ _ (Nat.lt_succ_self _) (HR.out.1.kept (below_alloc _ _)) HR.out.2.1 HR.out.2.2).mono ?_
  rintro e w1 ⟨rfl, hb1⟩
  have HB1 : Hid (Below w.heap.size w w1) := Lib.hid ((below_alloc _ _).trans (hb1.mono (by simp)))
  cases hq : rightD (.node r i ks)
  · have HV : Hid (showT (.node r i ks) = []) := Lib.hid (by simp [showT, hq])
    clear hq hb1
    go_wp2
    go_ret
    exact ⟨by rw [HV.out]; rfl, HB1.out⟩
  · have HV : Hid (showT (.node r i ks) = showD (.node r i ks)) := Lib.hid (by simp [showT, hq])
    clear hq
    have hbx : w1.heap[w.heap.size]? = some (.cells #[.int .i64 r, .int .i64 i, .slice a ks.length c] 24 (0, 0)) := by rw [hb1.block _ (by simp)]; exact heap_new _ _ _
    obtain ⟨c0, c1, c2⟩ := box_cells hbx
    clear hbx hb1
    go_wp2_with fail
    refine (rshow_all _ r i ks _ w1 (Nat.lt_succ_self _) (HR.out.1.kept HB1.out) HR.out.2.1 HR.out.2.2 HL.out).mono ?_
    rintro e w2 ⟨rfl, hb2⟩
    have HB2 := Lib.hid hb2
    clear hb2
    go_wp2
    go_ret
    exact ⟨by rw [HV.out]; rfl, HB1.out.trans (HB2.out.mono HB1.out.size)⟩

set_option maxRecDepth 100000 in
set_option maxHeartbeats 4000000 in
theorem rShowFile_any (cs : List DT) (cv : Value) (r i : Int) (ks : List DT) (v : Value) (w : World) (hcrep : RepK w cs cv) (hrep : RepK w ks v) (hr : In64 r) (hi : In64 i) (hlen : (showF cs (.node r i ks)).length ≤ 70368744177664) :
    Calls Tryd.prog 16 #[fileV cv r i v] w fun e w' => e = .returned (.string ⟨(showFT cs (.node r i ks)).toArray⟩) ∧ Below w.heap.size w w' := by
  obtain ⟨hkl, a, c, rfl⟩ := hrep.form
  obtain ⟨hcl, a2, c2, rfl⟩ := hcrep.form
  unfold maxLen at hcl
  clear hkl
  have HR := Lib.hid (And.intro hrep (And.intro hr hi))
  have HC := Lib.hid hcrep
  have hlen2 : 7 + (showCtx cs).length + 2 + (showD (.node r i ks)).length + 2 ≤ 70368744177664 := by
    simp only [showF, List.length_append, fileHead, List.length_cons, List.length_nil] at hlen; omega
  clear hrep hr hi hlen hcrep
  unfold fileV
  have hb0 : Below (w.heap.size + 1) (w.alloc (.cells #[.slice a2 cs.length c2, .int .i64 r, .int .i64 i, .slice a ks.length c] 26)) (w.alloc (.cells #[.slice a2 cs.length c2, .int .i64 r, .int .i64 i, .slice a ks.length c] 26)) := Below.refl _ _
  have HB0 := Lib.hid hb0
  clear hb0
  go_enter Tryd.func16, Tryd.ntmps16
  go_wp2_with fail
  refine (rrights_any cs _ _ (HC.out.kept (below_alloc _ _))).mono ?_
  rintro e w1 ⟨rfl, hb1⟩
  have hbel1 := HB0.out.trans (hb1.mono (Nat.le_of_eq (by simp)))
  have HB1 := Lib.hid hbel1
  have d0 := box_cell hbel1 0 (by simp)
  have d1 := box_cell hbel1 1 (by simp)
  have d2 := box_cell hbel1 2 (by simp)
  have d3 := box_cell hbel1 3 (by simp)
  clear hb1 hbel1
  simp only [List.getElem?_toArray, List.getElem?_cons_zero, List.getElem?_cons_succ] at d0 d1 d2 d3
  cases hq1 : rightDs cs
  · have HV : Hid (showFT cs (.node r i ks) = []) := Lib.hid (by simp [showFT, hq1])
    clear hq1
    go_wp2
    go_ret
    exact ⟨by rw [HV.out]; rfl, below_of_box HB1.out⟩
  have HQ1 := Lib.hid hq1
  clear hq1
  go_wp2_with fail
  refine (rright_any _ r i ks _ _ (Nat.lt_succ_self _) (HR.out.1.kept (below_of_box HB1.out)) HR.out.2.1 HR.out.2.2).mono ?_
  rintro e w2 ⟨rfl, hb2⟩
  have hbel2 := HB1.out.trans (hb2.mono (by have := HB1.out.size; simpa using this))
  have HB2 := Lib.hid hbel2
  clear hb2 d0 d1 d2 d3 hbel2
  cases hq2 : rightD (.node r i ks)
  · have HV : Hid (showFT cs (.node r i ks) = []) := Lib.hid (by simp [showFT, hq2])
    clear hq2
    go_wp2
    go_ret
    exact ⟨by rw [HV.out]; rfl, below_of_box HB2.out⟩
  have HV : Hid (showFT cs (.node r i ks) = showF cs (.node r i ks)) := Lib.hid (by simp [showFT, HQ1.out, hq2])
  clear hq2
  go_wp2_with fail
  go_loopw [3, 4] (fun sx ix wr => ∃ (j : Nat), ix = .int .i64 j ∧ sx = .string ⟨(fileHead ++ showCtx (cs.take j)).toArray⟩ ∧ j ≤ cs.length ∧ Below (w.heap.size + 1) (w.alloc (.cells #[.slice a2 cs.length c2, .int .i64 r, .int .i64 i, .slice a ks.length c] 26)) wr) (fun _ i _ => cs.length - (intOf i).toNat)
  case atStart => exact ⟨0, rfl, by simp [showCtx, fileHead], by omega, HB2.out⟩
  case round =>
    obtain ⟨j, rfl, rfl, hj, hbel⟩ := hrel
    have hB := below_of_box hbel
    have hsz : w.heap.size + 1 ≤ wr.heap.size := by simpa using hbel.size
    have d0 : wr.cell? ⟨w.heap.size, 0, none⟩ = some (.slice a2 cs.length c2) := by rw [box_cell hbel 0 (by simp)]; rfl
    have hfl : fileHead.length = 7 := rfl
    by_cases hlt : j < cs.length
    · obtain ⟨b, o, r1, i1, l1, v1, rfl, _, hbs, hj1, e0, e1, e2, hr1, hi1, hk1⟩ := (HC.out.kept hB).at j hlt
      have htk := showCtx_take hj1
      have hle := showCtx_le (ks := cs) (j + 1)
      have HS := Lib.hid (And.intro hk1 (And.intro hr1 hi1))
      have HB := Lib.hid (And.intro hbel hB)
      clear hk1 hr1 hi1 hj1 hbel hB
      by_cases hj0 : j = 0
      · subst hj0
        simp only [if_true] at htk
        rw [htk] at hle
        have E2 := Lib.hid (str_append (fileHead ++ showCtx (cs.take 0)) (showD (.node r1 i1 l1)))
        have HTK : Hid (fileHead ++ showCtx (cs.take 0) ++ showD (.node r1 i1 l1) = fileHead ++ showCtx (cs.take (0 + 1))) := Lib.hid (by rw [htk]; simp [showCtx])
        have hc1 : (showCtx []).length ≤ 0 := Nat.le_refl 0
        simp only [Nat.zero_mul, Nat.add_zero] at e0 e1 e2
        clear htk
        go_wp2_with fail
        refine (rshow_all _ r1 i1 l1 _ _ (Nat.lt_succ_self _) HS.out.1 HS.out.2.1 HS.out.2.2 (by omega)).mono ?_
        rintro e w5 ⟨rfl, hb5⟩
        have HB5 := Lib.hid (hb5.mono hsz)
        clear hb5
        go_wp2
        go_round
        case rel => exact ⟨0 + 1, by go_num, congrArg Value.string (E2.out.trans (by rw [HTK.out])), by omega, HB.out.1.trans HB5.out⟩
        case measure => simp [intOf]; omega
      · have hj1 : (0 : Int) < (j : Int) := by omega
        rw [if_neg hj0] at htk
        rw [htk] at hle
        simp only [List.length_append, List.length_cons] at hle
        have E1 := Lib.hid (str_append (fileHead ++ showCtx (cs.take j)) [32])
        have E2 := Lib.hid (str_append (fileHead ++ showCtx (cs.take j) ++ [32]) (showD (.node r1 i1 l1)))
        have HTK : Hid (fileHead ++ showCtx (cs.take j) ++ [32] ++ showD (.node r1 i1 l1) = fileHead ++ showCtx (cs.take (j + 1))) := Lib.hid (by rw [htk]; simp)
        clear htk
        go_wp2_with fail
        refine (rshow_all _ r1 i1 l1 _ _ (Nat.lt_succ_self _) HS.out.1 HS.out.2.1 HS.out.2.2 (by omega)).mono ?_
        rintro e w5 ⟨rfl, hb5⟩
        have HB5 := Lib.hid (hb5.mono hsz)
        clear hb5
        go_wp2
        go_round
        case rel => exact ⟨j + 1, by go_num, congrArg Value.string ((congrArg (· ++ _) E1.out).trans (E2.out.trans (by rw [HTK.out]))), by omega, HB.out.1.trans HB5.out⟩
        case measure => simp [intOf]; omega
    · have hjl : j = cs.length := by omega
      subst hjl
      rw [List.take_of_length_le (Nat.le_refl _)]
      have d1 : wr.cell? ⟨w.heap.size, 1, none⟩ = some (.int .i64 r) := by rw [box_cell hbel 1 (by simp)]; rfl
      have d2 : wr.cell? ⟨w.heap.size, 2, none⟩ = some (.int .i64 i) := by rw [box_cell hbel 2 (by simp)]; rfl
      have d3 : wr.cell? ⟨w.heap.size, 3, none⟩ = some (.slice a ks.length c) := by rw [box_cell hbel 3 (by simp)]; rfl
      have HB := Lib.hid (And.intro hbel hB)
      have E1 := Lib.hid (str_append (fileHead ++ showCtx cs) [41, 32])
      have E2 := Lib.hid (str_append (fileHead ++ showCtx cs ++ [41, 32]) (showD (.node r i ks)))
      have E3 := Lib.hid (str_append (fileHead ++ showCtx cs ++ [41, 32] ++ showD (.node r i ks)) [41, 10])
      clear hB hbel
      go_wp2_with fail
      refine (rshow_all _ r i ks _ _ (Nat.lt_succ_self _) (HR.out.1.kept HB.out.2) HR.out.2.1 HR.out.2.2 (by omega)).mono ?_
      rintro e w5 ⟨rfl, hb5⟩
      have HB5 := Lib.hid (hb5.mono hsz)
      clear hb5
      go_wp2
      go_ret
      exact ⟨by rw [HV.out]; exact congrArg (fun s => Ending.returned (.string s)) ((congrArg (fun x => x ++ _ ++ _) E1.out).trans ((congrArg (· ++ _) E2.out).trans E3.out)), HB.out.2.trans (HB5.out.mono (Nat.le_succ _))⟩
end Go.Proofs.YtfpiogaakblpeaaDoor
