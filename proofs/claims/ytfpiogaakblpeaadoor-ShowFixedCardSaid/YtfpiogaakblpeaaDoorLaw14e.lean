/- Walk of transhiplaw14.ShowFixed. -/
import Derived.Test.YtfpiogaakblpeaaDoorLaw14d
namespace Go.Proofs.YtfpiogaakblpeaaDoor
open Go.RowKit

set_option maxRecDepth 100000 in
set_option maxHeartbeats 4000000 in
theorem showFixed_walk (s : ByteArray) (w : World) (ht : Tab w) (hs : s.size ≤ maxLen) :
    Calls Tryd.prog 11 #[.string s] w fun e w' => e = .returned (.bool true) ∧ Below w.heap.size w w' := by
  unfold maxLen at hs
  have HT := Lib.hid ht
  clear ht
  by_cases hl : (3000 : Int) < s.size
  · go_enter Tryd.func11, Tryd.ntmps11
    go_wp2
    go_ret
    exact ⟨rfl, Below.refl _ _⟩
  have HS : Hid (s.size ≤ 3000) := Lib.hid (by omega)
  have hz : s.data.toList.length = s.size := by simp
  cases hf : wholeM (fun m => withinB m 4787326403894837248) (fun m => withinB m 4787326403894837248) s.data.toList with
  | bad k y =>
    have HF := Lib.hid hf
    clear hf hz
    go_enter Tryd.func11, Tryd.ntmps11
    go_wp2_with fail
    refine (parse_bad s _ _ _ HT.out (by have := HS.out; omega) k y HF.out).mono ?_
    rintro e w1 ⟨he, hb1⟩
    have hb2 := hb1.trans ((below_alloc w1 (.cells #[.slice none 0 0, .int .i64 0, .int .i64 0, .slice none 0 0] 26)).mono hb1.size)
    have HB2 := Lib.hid hb2
    clear hb1 hb2
    generalize placeM s.data.toList k = pl at *
    cases y
    all_goals
      obtain rfl := he
      simp only [errOf, wordOf, fileV]
      go_wp2_with fail
      refine (wakes14 _ (HT.out.below HB2.out)).mono ?_
      rintro e w3 ⟨rfl, hb3⟩
      have HB3 := Lib.hid (HB2.out.trans (hb3.mono HB2.out.size))
      clear hb3
      go_wp2
      go_ret
      exact ⟨rfl, HB3.out⟩
  | ok x k n =>
    obtain ⟨cs, ⟨r, i, ks⟩⟩ := x
    obtain ⟨toks, hlx, hkt, hr1, hr2, hn⟩ := fixed_facts hf (by rw [hz]; omega)
    have HF := Lib.hid hf
    have HR := Lib.hid (And.intro hr1 (And.intro hr2 hn))
    have HX := Lib.hid (And.intro hlx hkt)
    clear hf hr1 hr2 hz hn hlx hkt
    go_enter Tryd.func11, Tryd.ntmps11
    go_wp2_with fail
    refine (parse_ok s _ _ _ HT.out (by have := HS.out; omega) cs (.node r i ks) ⟨k, n, HF.out⟩).mono ?_
    rintro e w1 ⟨cv, v, rfl, hk1, hk2, h64a, h64b, hb1⟩
    obtain ⟨_, a1, c1, rfl⟩ := hk1.form
    obtain ⟨_, a2, c2, rfl⟩ := RepK.form hk2
    have HI := Lib.hid (And.intro h64a h64b)
    have HL : Hid ((showF cs (.node r i ks)).length ≤ 100000) := Lib.hid (by
      have h1 := showF_le (cs := cs) (d := .node r i ks) hk1.in64 ⟨h64a, h64b, RepK.in64 hk2⟩
      have h2 := HR.out.2.2
      omega)
    have HK : Hid (RepK (w1.alloc (.cells #[.slice a1 cs.length c1, .int .i64 r, .int .i64 i, .slice a2 ks.length c2] 26)) cs (.slice a1 cs.length c1) ∧ RepK (w1.alloc (.cells #[.slice a1 cs.length c1, .int .i64 r, .int .i64 i, .slice a2 ks.length c2] 26)) ks (.slice a2 ks.length c2)) := Lib.hid ⟨hk1.kept (below_alloc _ _), RepK.kept (below_alloc _ _) hk2⟩
    have HB0 : Hid (Below (w1.heap.size + 1) (w1.alloc (.cells #[.slice a1 cs.length c1, .int .i64 r, .int .i64 i, .slice a2 ks.length c2] 26)) (w1.alloc (.cells #[.slice a1 cs.length c1, .int .i64 r, .int .i64 i, .slice a2 ks.length c2] 26))) := Lib.hid (Below.refl _ _)
    have HBW := Lib.hid (hb1.trans ((below_alloc w1 (.cells #[.slice a1 cs.length c1, .int .i64 r, .int .i64 i, .slice a2 ks.length c2] 26)).mono hb1.size))
    have HZ : Hid ((w1.alloc (.cells #[.slice a1 cs.length c1, .int .i64 r, .int .i64 i, .slice a2 ks.length c2] 26)).heap.size = w1.heap.size + 1) := Lib.hid (by simp)
    have HZ1 := Lib.hid hb1.size
    clear h64a h64b hk1 hk2 hb1
    simp only [DT.kids, DT.rule, DT.idx, fileV] at *
    go_wp2_with fail
    refine (showFile_any cs _ r i ks _ _ HK.out.1 HK.out.2 HI.out.1 HI.out.2 (HT.out.below HBW.out) (by have := HL.out; omega)).mono ?_
    rintro e w2 ⟨rfl, hb2⟩
    rw [show showFT cs (.node r i ks) = showF cs (.node r i ks) from if_pos ⟨HR.out.1, HR.out.2.1⟩]
    have HBW2 := Lib.hid (HBW.out.trans (hb2.mono HBW.out.size))
    clear hb2
    obtain ⟨toks2, k2, n2, hlx2, hkt2, hf2⟩ := back_facts2 HR.out.1 HR.out.2.1 HR.out.2.2
    have HX2 := Lib.hid (And.intro hlx2 (And.intro hkt2 hf2))
    clear hlx2 hkt2 hf2
    go_wp2_with fail
    refine (parse_ok ⟨(showF cs (.node r i ks)).toArray⟩ _ _ _ (HT.out.below HBW2.out) (by have := HL.out; show (showF cs (.node r i ks)).toArray.size ≤ _; simp only [List.size_toArray]; omega) cs (.node r i ks) ⟨k2, n2, by simpa using HX2.out.2.2⟩).mono ?_
    rintro e w3 ⟨cv3, v3, rfl, hk3, hk4, _, _, hb3⟩
    obtain ⟨_, a3, c3, rfl⟩ := hk3.form
    obtain ⟨_, a4, c4, rfl⟩ := RepK.form hk4
    have HK3 : Hid (RepK (w3.alloc (.cells #[.slice a3 cs.length c3, .int .i64 r, .int .i64 i, .slice a4 ks.length c4] 26)) cs (.slice a3 cs.length c3) ∧ RepK (w3.alloc (.cells #[.slice a3 cs.length c3, .int .i64 r, .int .i64 i, .slice a4 ks.length c4] 26)) ks (.slice a4 ks.length c4)) := Lib.hid ⟨hk3.kept (below_alloc _ _), RepK.kept (below_alloc _ _) hk4⟩
    have HB3 : Hid (Below (w3.heap.size + 1) (w3.alloc (.cells #[.slice a3 cs.length c3, .int .i64 r, .int .i64 i, .slice a4 ks.length c4] 26)) (w3.alloc (.cells #[.slice a3 cs.length c3, .int .i64 r, .int .i64 i, .slice a4 ks.length c4] 26))) := Lib.hid (Below.refl _ _)
    have HBW3 := Lib.hid ((HBW2.out.trans (hb3.mono HBW2.out.size)).trans ((below_alloc w3 (.cells #[.slice a3 cs.length c3, .int .i64 r, .int .i64 i, .slice a4 ks.length c4] 26)).mono (Nat.le_trans HBW2.out.size hb3.size)))
    have HZ3 : Hid ((w3.alloc (.cells #[.slice a3 cs.length c3, .int .i64 r, .int .i64 i, .slice a4 ks.length c4] 26)).heap.size = w3.heap.size + 1) := Lib.hid (by simp)
    have HZW : Hid (w.heap.size ≤ w3.heap.size) := Lib.hid (Nat.le_trans HBW2.out.size hb3.size)
    clear hk3 hk4 hb3
    simp only [DT.kids, DT.rule, DT.idx, fileV] at *
    go_wp2_with fail
    refine (rlex_ok s _ toks HX.out.1 (by have := HS.out; omega)).mono ?_
    rintro e w4 ⟨v4, rfl, hown4, hb4⟩
    have hh4 := Has.of_owns hown4
    obtain ⟨a5, c5, rfl⟩ := hh4.slice
    have HH4 := Lib.hid hh4
    have HB4 := Lib.hid (HB3.out.trans (hb4.mono (Nat.le_of_eq HZ3.out.symm)))
    have HBW4 := Lib.hid (HBW3.out.trans (hb4.mono HBW3.out.size))
    clear hown4 hh4 hb4
    go_wp2_with fail
    refine (rlex_ok ⟨(showF cs (.node r i ks)).toArray⟩ _ toks2 (by simpa using HX2.out.1) (by have := HL.out; show (showF cs (.node r i ks)).toArray.size ≤ _; simp only [List.size_toArray]; omega)).mono ?_
    rintro e w5 ⟨v5, rfl, hown5, hb5⟩
    have hh5 := Has.of_owns hown5
    obtain ⟨a6, c6, rfl⟩ := hh5.slice
    have HH5 := Lib.hid hh5
    have HH4' := Lib.hid (HH4.out.below hb5)
    have HB5 := Lib.hid (HB4.out.trans (hb5.mono (by have := HB4.out.size; rw [HZ3.out] at this; exact this)))
    have HBW5 := Lib.hid (HBW4.out.trans (hb5.mono HBW4.out.size))
    clear hown5 hh5 hb5
    have HLEN : Hid (toks.length = toks2.length) := Lib.hid (by
      have h1 := congrArg List.length (HX.out.2.trans HX2.out.2.1.symm)
      simpa using h1)
    have hne : ((toks.length : Int) != (toks2.length : Int)) = false := by simp [HLEN.out]
    have d0 : w5.cell? ⟨w3.heap.size, 0, none⟩ = some (.slice a3 cs.length c3) := box_cell HB5.out 0 (by simp)
    have d1 : w5.cell? ⟨w3.heap.size, 1, none⟩ = some (.int .i64 r) := box_cell HB5.out 1 (by simp)
    have d2 : w5.cell? ⟨w3.heap.size, 2, none⟩ = some (.int .i64 i) := box_cell HB5.out 2 (by simp)
    have d3 : w5.cell? ⟨w3.heap.size, 3, none⟩ = some (.slice a4 ks.length c4) := box_cell HB5.out 3 (by simp)
    go_wp2_with fail
    refine (showFile_any cs _ r i ks _ _ (HK3.out.1.kept (HB5.out.mono (Nat.le_of_eq HZ3.out))) (HK3.out.2.kept (HB5.out.mono (Nat.le_of_eq HZ3.out))) HI.out.1 HI.out.2 (HT.out.below HBW5.out) (by have := HL.out; omega)).mono ?_
    rintro e w6 ⟨rfl, hb6⟩
    rw [show showFT cs (.node r i ks) = showF cs (.node r i ks) from if_pos ⟨HR.out.1, HR.out.2.1⟩]
    have HBW6 := Lib.hid (HBW5.out.trans (hb6.mono HBW5.out.size))
    have HH4'' := Lib.hid (HH4'.out.below hb6)
    have HH5' := Lib.hid (HH5.out.below hb6)
    clear hb6 d0 d1 d2 d3
    go_wp2_with fail
    have HEQ : Hid (∀ (j : Nat) (h : j < toks.length) (h' : j < toks2.length), toks2[j].kind = toks[j].kind ∧ toks2[j].text = toks[j].text) := Lib.hid (fun j h h' => by
      have h3 : (toks2.map kt)[j]? = (toks.map kt)[j]? := by rw [HX.out.2, HX2.out.2.1]
      rw [List.getElem?_map, List.getElem?_map, List.getElem?_eq_getElem h, List.getElem?_eq_getElem h'] at h3
      have h4 := Option.some.inj h3
      exact ⟨(Prod.mk.inj h4).1, (Prod.mk.inj h4).2⟩)
    have HT6 := Lib.hid (HT.out.below HBW6.out)
    have hle : toks.length ≤ 3000 := by
      have h1 := lexL_length s.data.toList
      rw [HX.out.1] at h1
      have h2 : s.data.toList.length = s.size := by simp
      have h3 := HS.out
      dsimp only at h1
      omega
    go_loopw [16] (fun i wr => ∃ (j m : Nat), i = .int .i64 j ∧ j ≤ toks.length ∧ wr = w6.drewN m) (fun i _ => toks.length - (intOf i).toNat)
    case atStart => exact ⟨0, 0, rfl, Nat.zero_le _, rfl⟩
    case round =>
      obtain ⟨j, m, rfl, hj, rfl⟩ := hrel
      by_cases hjt : j < toks.length
      · have hml := HLEN.out
        obtain ⟨b, o, rfl, hb, hcells⟩ := HH4''.out.open (by omega)
        obtain ⟨b', o', rfl, hb', hcells'⟩ := HH5'.out.open (by omega)
        have hat := toksCells_at toks j hjt
        have hat' := toksCells_at toks2 j (by omega)
        have heq := HEQ.out j hjt (by omega)
        rw [heq.1, heq.2] at hat'
        have p0 : w6.cell? ⟨b, o + j * 3, none⟩ = _ := (hcells (j * 3) (by omega)).trans hat.1
        have p1 : w6.cell? ⟨b, o + j * 3 + 1, none⟩ = _ := (hcells (j * 3 + 1) (by omega)).trans hat.2.1
        have q0 : w6.cell? ⟨b', o' + j * 3, none⟩ = _ := (hcells' (j * 3) (by omega)).trans hat'.1
        have q1 : w6.cell? ⟨b', o' + j * 3 + 1, none⟩ = _ := (hcells' (j * 3 + 1) (by omega)).trans hat'.2.1
        have hjl : j < toks2.length := by omega
        clear hat hat' heq hcells hcells' hml
        go_wp2_with fail
        refine wp_region_quiet_lit (by kernel_rfl) (by kernel_rfl) ?_
        repeat (quiet_step (fail))
        refine wpQuiet_nil ?_
        intro _ hw'
        obtain ⟨nq, hw''⟩ := hw'
        subst hw''
        go_wp2
        go_roundw
        case rel => exact ⟨j + 1, m + nq, by go_num, by omega, rfl⟩
        case measure => simp [intOf]; omega
      · have HTm : Hid (Tab (w6.drewN m)) := Lib.hid (HT6.out.below (below_drewN (Below.refl _ _) m))
        go_wp2_with fail
        refine (wakes14 _ HTm.out).mono ?_
        rintro e w7 ⟨rfl, hb7⟩
        go_wp2
        go_ret
        exact ⟨rfl, (below_drewN HBW6.out m).trans (hb7.mono HBW6.out.size)⟩
end Go.Proofs.YtfpiogaakblpeaaDoor
