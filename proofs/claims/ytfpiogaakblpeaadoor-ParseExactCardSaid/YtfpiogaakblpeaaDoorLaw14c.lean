/- Walk of transhipkeep.File; small numbers lie within 2^40; a text that show wrote is lexed and read. Walk of transhiplaw14.ShowBack. -/
import Derived.Test.YtfpiogaakblpeaaDoorParO
import Derived.Test.YtfpiogaakblpeaaDoorParB
import Derived.Test.YtfpiogaakblpeaaDoorLaw14
namespace Go.Proofs.YtfpiogaakblpeaaDoor
open Go.RowKit

theorem within_small (m : Nat) (h : m ≤ 1000) : withinB m 4787326403894837248 = true := by
  have key : ∀ k : Fin 1001, withinB (k.val : Int) 4787326403894837248 = true := by decide +kernel
  exact key ⟨m, by omega⟩

theorem back_facts {cs : List DT} {d : DT} (hc : rightDs cs = true) (hr : rightD d = true) (hn : nodesDs cs + nodesD d ≤ 600) :
    ∃ toks k n, lexL (showF cs d) = (toks, none) ∧ fileM ⟨toks, fun m => withinB m 4787326403894837248, fun m => withinB m 4787326403894837248⟩ = .ok (cs, d) k n := by
  have h := lexE_file cs d hc hr
  unfold lexE eraseX at h
  obtain ⟨h3, h4⟩ := Prod.mk.inj h
  have hdd : max (deepDs cs) (deepD d) ≤ 600 := by
    have h1 := deep_le_nodes d
    have h2 := deeps_le_nodes cs
    omega
  obtain ⟨k, n, h5⟩ := fileM_back (E := ⟨(lexL (showF cs d)).1, fun m => withinB m 4787326403894837248, fun m => withinB m 4787326403894837248⟩) (fun m hm => within_small m (by omega)) (fun m hm => within_small m (by omega)) hc hr h3 hdd hn
  refine ⟨_, k, n, ?_, h5⟩
  have h6 : (lexL (showF cs d)).2 = none := by simpa using h4
  rw [← h6]

set_option maxRecDepth 100000 in
set_option maxHeartbeats 1000000 in
theorem keepFile_any (cs cs' : List DT) (cv cv' : Value) (r i r' i' : Int) (ks ks' : List DT) (v v' : Value) (w : World) (hc : RepK w cs cv) (hc' : RepK w cs' cv') (hk : RepK w ks v) (hk' : RepK w ks' v') :
    Calls Tryd.prog 23 #[fileV cv r i v, fileV cv' r' i' v'] w fun e w' => e = .returned (.bool (sameDs cs cs' && sameD (.node r i ks) (.node r' i' ks'))) ∧ Below w.heap.size w w' := by
  obtain ⟨_, a, c, rfl⟩ := hc.form
  obtain ⟨_, a2, c2, rfl⟩ := hc'.form
  obtain ⟨_, a3, c3, rfl⟩ := hk.form
  obtain ⟨_, a4, c4, rfl⟩ := hk'.form
  have HC := Lib.hid (And.intro hc hc')
  have HR := Lib.hid (And.intro hk hk')
  clear hc hc' hk hk'
  unfold fileV
  have hb0 : Below (w.heap.size + 2) ((w.alloc (.cells #[.slice a cs.length c, .int .i64 r, .int .i64 i, .slice a3 ks.length c3] 26)).alloc (.cells #[.slice a2 cs'.length c2, .int .i64 r', .int .i64 i', .slice a4 ks'.length c4] 26)) ((w.alloc (.cells #[.slice a cs.length c, .int .i64 r, .int .i64 i, .slice a3 ks.length c3] 26)).alloc (.cells #[.slice a2 cs'.length c2, .int .i64 r', .int .i64 i', .slice a4 ks'.length c4] 26)) := Below.refl _ _
  have hx0 : ((w.alloc (.cells #[.slice a cs.length c, .int .i64 r, .int .i64 i, .slice a3 ks.length c3] 26)).alloc (.cells #[.slice a2 cs'.length c2, .int .i64 r', .int .i64 i', .slice a4 ks'.length c4] 26)).heap[w.heap.size]? = some (.cells #[.slice a cs.length c, .int .i64 r, .int .i64 i, .slice a3 ks.length c3] 26 (0, 0)) :=
    (Lib.alloc_old _ _ _ (by simp)).trans (new_heap _ _ _)
  have hx1 : ((w.alloc (.cells #[.slice a cs.length c, .int .i64 r, .int .i64 i, .slice a3 ks.length c3] 26)).alloc (.cells #[.slice a2 cs'.length c2, .int .i64 r', .int .i64 i', .slice a4 ks'.length c4] 26)).heap[w.heap.size + 1]? = some (.cells #[.slice a2 cs'.length c2, .int .i64 r', .int .i64 i', .slice a4 ks'.length c4] 26 (0, 0)) := by
    have := new_heap (w.alloc (.cells #[.slice a cs.length c, .int .i64 r, .int .i64 i, .slice a3 ks.length c3] 26)) #[.slice a2 cs'.length c2, .int .i64 r', .int .i64 i', .slice a4 ks'.length c4] 26
    simpa using this
  have hbw : Below w.heap.size w ((w.alloc (.cells #[.slice a cs.length c, .int .i64 r, .int .i64 i, .slice a3 ks.length c3] 26)).alloc (.cells #[.slice a2 cs'.length c2, .int .i64 r', .int .i64 i', .slice a4 ks'.length c4] 26)) := (below_alloc _ _).trans ((below_alloc _ _).mono (by simp))
  have hsz0 : ((w.alloc (.cells #[.slice a cs.length c, .int .i64 r, .int .i64 i, .slice a3 ks.length c3] 26)).alloc (.cells #[.slice a2 cs'.length c2, .int .i64 r', .int .i64 i', .slice a4 ks'.length c4] 26)).heap.size = w.heap.size + 2 := by simp
  go_enter Tryd.func23, Tryd.ntmps23
  have HX := Lib.hid (And.intro hx0 hx1)
  have HB0 := Lib.hid hb0
  have HBW := Lib.hid hbw
  have HSZ := Lib.hid hsz0
  clear hb0 hx0 hx1 hbw hsz0
  go_wp2_with fail
  refine (keepDs_any (SizeOf.sizeOf cs) (keepD_all _) cs cs' _ _ _ (fun k hk => List.sizeOf_lt_of_mem hk) (HC.out.1.kept HBW.out) (HC.out.2.kept HBW.out)).mono ?_
  rintro e w1 ⟨rfl, hb1⟩
  rw [HSZ.out] at hb1
  have HB1 := Lib.hid (HB0.out.trans hb1)
  have HBW1 := Lib.hid (HBW.out.trans (hb1.mono (by omega)))
  have y0 : w1.heap[w.heap.size]? = _ := (HB1.out.block _ (by omega)).trans HX.out.1
  have y1 : w1.heap[w.heap.size + 1]? = _ := (HB1.out.block _ (by omega)).trans HX.out.2
  have z1 : w1.cell? ⟨w.heap.size, 1, none⟩ = some (.int .i64 r) := by simp [World.cell?, y0]
  have z2 : w1.cell? ⟨w.heap.size, 2, none⟩ = some (.int .i64 i) := by simp [World.cell?, y0]
  have z3 : w1.cell? ⟨w.heap.size, 3, none⟩ = some (.slice a3 ks.length c3) := by simp [World.cell?, y0]
  have u1 : w1.cell? ⟨w.heap.size + 1, 1, none⟩ = some (.int .i64 r') := by simp [World.cell?, y1]
  have u2 : w1.cell? ⟨w.heap.size + 1, 2, none⟩ = some (.int .i64 i') := by simp [World.cell?, y1]
  have u3 : w1.cell? ⟨w.heap.size + 1, 3, none⟩ = some (.slice a4 ks'.length c4) := by simp [World.cell?, y1]
  clear y0 y1 hb1
  cases hq : sameDs cs cs'
  · have HQ := Lib.hid hq
    clear hq
    go_wp2
    go_ret
    exact ⟨by rw [HQ.out]; rfl, HBW1.out⟩
  · have HQ := Lib.hid hq
    clear hq
    go_wp2_with fail
    refine (keepD_any r i r' i' ks ks' _ _ _ (HR.out.1.kept HBW1.out) (HR.out.2.kept HBW1.out)).mono ?_
    rintro e w2 ⟨rfl, hb2⟩
    have HB2 := Lib.hid (HBW1.out.trans (hb2.mono HBW1.out.size))
    clear hb2
    go_wp2
    go_ret
    exact ⟨by rw [HQ.out, Bool.true_and]; rfl, HB2.out⟩
end Go.Proofs.YtfpiogaakblpeaaDoor

namespace Go.Proofs.YtfpiogaakblpeaaDoor
open Go.RowKit

set_option maxRecDepth 100000 in
set_option maxHeartbeats 4000000 in
theorem showBack_walk (cs : List DT) (cv : Value) (r i : Int) (ks : List DT) (v : Value) (w : World) (hcrep : RepK w cs cv) (hrep : RepK w ks v) (hr : In64 r) (hi : In64 i) (ht : Tab w) :
    Calls Tryd.prog 10 #[fileV cv r i v] w fun e w' => e = .returned (.bool true) ∧ Below w.heap.size w w' := by
  have h64c := hcrep.in64
  have h64d : in64D (.node r i ks) := ⟨hr, hi, hrep.in64⟩
  obtain ⟨hkl, a, c, rfl⟩ := hrep.form
  obtain ⟨hcl, a2, c2, rfl⟩ := hcrep.form
  clear hkl hcl
  have HT := Lib.hid ht
  have HR := Lib.hid (And.intro hrep (And.intro hr hi))
  have HC := Lib.hid hcrep
  clear hrep hr hi hcrep ht
  unfold fileV
  have hb0 : Below (w.heap.size + 1) (w.alloc (.cells #[.slice a2 cs.length c2, .int .i64 r, .int .i64 i, .slice a ks.length c] 26)) (w.alloc (.cells #[.slice a2 cs.length c2, .int .i64 r, .int .i64 i, .slice a ks.length c] 26)) := Below.refl _ _
  have HB0 := Lib.hid hb0
  clear hb0
  go_enter Tryd.func10, Tryd.ntmps10
  go_wp2_with fail
  refine (greatFile_any cs _ r i ks _ 600 _ (HC.out.kept (below_alloc _ _)) (HR.out.1.kept (below_alloc _ _)) (by omega) (by omega)).mono ?_
  rintro e w1 ⟨rfl, hb1⟩
  have HB1 := Lib.hid (HB0.out.trans (hb1.mono (Nat.le_of_eq (by simp))))
  have HBW1 := Lib.hid (below_of_box HB1.out)
  have hsz1 := HB1.out.size
  simp only [World.size_alloc] at hsz1
  have d0 : w1.cell? ⟨w.heap.size, 0, none⟩ = some (.slice a2 cs.length c2) := box_cell HB1.out 0 (by simp)
  have d1 : w1.cell? ⟨w.heap.size, 1, none⟩ = some (.int .i64 r) := box_cell HB1.out 1 (by simp)
  have d2 : w1.cell? ⟨w.heap.size, 2, none⟩ = some (.int .i64 i) := box_cell HB1.out 2 (by simp)
  have d3 : w1.cell? ⟨w.heap.size, 3, none⟩ = some (.slice a ks.length c) := box_cell HB1.out 3 (by simp)
  clear hb1
  cases hg : greatF cs (.node r i ks) 600
  case true =>
    clear hg
    go_wp2
    go_ret
    exact ⟨rfl, HBW1.out⟩
  have hn := greatF_nodes hg
  have hl1 := showF_le h64c h64d
  have HL : Hid ((showF cs (.node r i ks)).length ≤ 100000 ∧ nodesDs cs + nodesD (.node r i ks) ≤ 600) := Lib.hid ⟨by omega, by omega⟩
  clear hn hl1 hg h64c h64d
  go_wp2_with fail
  refine (rrights_any cs _ _ (HC.out.kept HBW1.out)).mono ?_
  rintro e w2 ⟨rfl, hb2⟩
  have HB2 := Lib.hid (HB1.out.trans (hb2.mono hsz1))
  have HBW2 := Lib.hid (below_of_box HB2.out)
  have hsz2 := HB2.out.size
  simp only [World.size_alloc] at hsz2
  clear hb2 d0 d1 d2 d3 hsz1
  have d0 : w2.cell? ⟨w.heap.size, 0, none⟩ = some (.slice a2 cs.length c2) := box_cell HB2.out 0 (by simp)
  have d1 : w2.cell? ⟨w.heap.size, 1, none⟩ = some (.int .i64 r) := box_cell HB2.out 1 (by simp)
  have d2 : w2.cell? ⟨w.heap.size, 2, none⟩ = some (.int .i64 i) := box_cell HB2.out 2 (by simp)
  have d3 : w2.cell? ⟨w.heap.size, 3, none⟩ = some (.slice a ks.length c) := box_cell HB2.out 3 (by simp)
  cases hq1 : rightDs cs
  case false =>
    clear hq1
    go_wp2
    go_ret
    exact ⟨rfl, HBW2.out⟩
  go_wp2_with fail
  refine (rright_any _ r i ks _ _ (Nat.lt_succ_self _) (HR.out.1.kept HBW2.out) HR.out.2.1 HR.out.2.2).mono ?_
  rintro e w3 ⟨rfl, hb3⟩
  have HB3 := Lib.hid (HB2.out.trans (hb3.mono hsz2))
  have HBW3 := Lib.hid (below_of_box HB3.out)
  have hsz3 := HB3.out.size
  simp only [World.size_alloc] at hsz3
  clear hb3 d0 d1 d2 d3 hsz2
  have d0 : w3.cell? ⟨w.heap.size, 0, none⟩ = some (.slice a2 cs.length c2) := box_cell HB3.out 0 (by simp)
  have d1 : w3.cell? ⟨w.heap.size, 1, none⟩ = some (.int .i64 r) := box_cell HB3.out 1 (by simp)
  have d2 : w3.cell? ⟨w.heap.size, 2, none⟩ = some (.int .i64 i) := box_cell HB3.out 2 (by simp)
  have d3 : w3.cell? ⟨w.heap.size, 3, none⟩ = some (.slice a ks.length c) := box_cell HB3.out 3 (by simp)
  cases hq2 : rightD (.node r i ks)
  case false =>
    clear hq2
    go_wp2
    go_ret
    exact ⟨rfl, HBW3.out⟩
  obtain ⟨toks, kk, nn, hlx, hfm⟩ := back_facts hq1 hq2 HL.out.2
  have HLX := Lib.hid (And.intro hlx hfm)
  have HQ := Lib.hid (And.intro hq1 hq2)
  clear hlx hfm hq1 hq2
  go_wp2_with fail
  refine (showFile_any cs _ r i ks _ _ (HC.out.kept HBW3.out) (HR.out.1.kept HBW3.out) HR.out.2.1 HR.out.2.2 (HT.out.below HBW3.out) (by have := HL.out.1; omega)).mono ?_
  rintro e w4 ⟨rfl, hb4⟩
  rw [show showFT cs (.node r i ks) = showF cs (.node r i ks) from if_pos HQ.out]
  have HB4 := Lib.hid (HB3.out.trans (hb4.mono hsz3))
  have HBW4 := Lib.hid (below_of_box HB4.out)
  have hsz4 := HB4.out.size
  simp only [World.size_alloc] at hsz4
  clear hb4 d0 d1 d2 d3 hsz3
  go_wp2_with fail
  refine (fileOk_any ⟨(showF cs (.node r i ks)).toArray⟩ 4787326403894837248 4787326403894837248 w4 (HT.out.below HBW4.out) (by have := HL.out.1; show (showF cs (.node r i ks)).toArray.size ≤ _; simp only [List.size_toArray]; omega) toks (by simpa using HLX.out.1) cs (.node r i ks) kk nn HLX.out.2).mono ?_
  rintro e w5 ⟨cv5, v5, rfl, hk1, hk2, _, _, hb5⟩
  obtain ⟨_, a5, c5, rfl⟩ := hk1.form
  obtain ⟨_, a6, c6, rfl⟩ := RepK.form hk2
  simp only [DT.kids, DT.rule, DT.idx, fileV] at *
  have HB5 := Lib.hid (HB4.out.trans (hb5.mono hsz4))
  have HBW5 := Lib.hid (below_of_box HB5.out)
  have HK := Lib.hid (And.intro hk1 hk2)
  have hsz5 := HB5.out.size
  simp only [World.size_alloc] at hsz5
  have HB6 : Hid (Below (w.heap.size + 1) (w.alloc (.cells #[.slice a2 cs.length c2, .int .i64 r, .int .i64 i, .slice a ks.length c] 26)) (w5.alloc (.cells #[.slice a5 cs.length c5, .int .i64 r, .int .i64 i, .slice a6 ks.length c6] 26))) := Lib.hid (HB5.out.trans ((below_alloc _ _).mono hsz5))
  have HK6 : Hid (RepK (w5.alloc (.cells #[.slice a5 cs.length c5, .int .i64 r, .int .i64 i, .slice a6 ks.length c6] 26)) cs (.slice a5 cs.length c5) ∧ RepK (w5.alloc (.cells #[.slice a5 cs.length c5, .int .i64 r, .int .i64 i, .slice a6 ks.length c6] 26)) ks (.slice a6 ks.length c6)) := Lib.hid ⟨HK.out.1.kept (below_alloc _ _), HK.out.2.kept (below_alloc _ _)⟩
  have HBW6 := Lib.hid (below_of_box HB6.out)
  have d0 : (w5.alloc (.cells #[.slice a5 cs.length c5, .int .i64 r, .int .i64 i, .slice a6 ks.length c6] 26)).cell? ⟨w.heap.size, 0, none⟩ = some (.slice a2 cs.length c2) := box_cell HB6.out 0 (by simp)
  have d1 : (w5.alloc (.cells #[.slice a5 cs.length c5, .int .i64 r, .int .i64 i, .slice a6 ks.length c6] 26)).cell? ⟨w.heap.size, 1, none⟩ = some (.int .i64 r) := box_cell HB6.out 1 (by simp)
  have d2 : (w5.alloc (.cells #[.slice a5 cs.length c5, .int .i64 r, .int .i64 i, .slice a6 ks.length c6] 26)).cell? ⟨w.heap.size, 2, none⟩ = some (.int .i64 i) := box_cell HB6.out 2 (by simp)
  have d3 : (w5.alloc (.cells #[.slice a5 cs.length c5, .int .i64 r, .int .i64 i, .slice a6 ks.length c6] 26)).cell? ⟨w.heap.size, 3, none⟩ = some (.slice a ks.length c) := box_cell HB6.out 3 (by simp)
  have hsz6 := HBW6.out.size
  clear hb5 hsz4 hk1 hk2
  go_wp2_with fail
  refine (keepFile_any cs cs _ _ r i r i ks ks _ _ _ (HC.out.kept HBW6.out) HK6.out.1 (HR.out.1.kept HBW6.out) HK6.out.2).mono ?_
  rintro e w7 ⟨rfl, hb7⟩
  have HBW7 := Lib.hid (HBW6.out.trans (hb7.mono hsz6))
  have hsz7 := HBW7.out.size
  clear hb7 d0 d1 d2 d3 hsz6 hsz5
  rw [(sameDs_iff cs cs).2 rfl, (sameD_iff (.node r i ks) (.node r i ks)).2 rfl, Bool.true_and]
  go_wp2_with fail
  refine (wakes14 _ (HT.out.below HBW7.out)).mono ?_
  rintro e w8 ⟨rfl, hb8⟩
  have HBW8 := Lib.hid (HBW7.out.trans (hb8.mono hsz7))
  clear hb8 hsz7
  go_wp2
  go_ret
  exact ⟨rfl, HBW8.out⟩
end Go.Proofs.YtfpiogaakblpeaaDoor
