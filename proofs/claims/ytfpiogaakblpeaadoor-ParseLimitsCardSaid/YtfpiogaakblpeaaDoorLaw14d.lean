/- Walk of transhiplaw13.ParseRight. The plain law of transhiplaw14.ShowFixed. -/
import Derived.Test.YtfpiogaakblpeaaDoorLaw13
import Derived.Test.YtfpiogaakblpeaaDoorRRight
import Derived.Test.YtfpiogaakblpeaaDoorLaw14c
namespace Go.Proofs.YtfpiogaakblpeaaDoor
open Go.RowKit

theorem placeM_le (text : List UInt8) (k : Nat) : placeM text k ≤ text.length := by
  obtain ⟨toks, f, hl⟩ : ∃ toks f, lexL text = (toks, f) := ⟨_, _, rfl⟩
  unfold placeM
  rw [hl]
  dsimp only
  cases f with
  | none =>
    by_cases hk : k < toks.length
    · rw [List.getElem?_eq_getElem hk]
      have := spans_pos text 0 toks (spans_lexL _ _ hl) k hk
      dsimp only; omega
    · rw [List.getElem?_eq_none (by omega)]; simp
  | some p =>
    have hp := lexL_fault hl
    by_cases hk : k < toks.length
    · rw [List.getElem?_eq_getElem hk]
      have := spans_pos (text.take p) 0 toks (spans_lexL _ _ (lexL_cut hl)) k hk
      rw [List.length_take] at this
      dsimp only; omega
    · rw [List.getElem?_eq_none (by omega)]; simpa using hp

set_option maxRecDepth 100000 in
set_option maxHeartbeats 2000000 in
theorem parseRight_walk (s : ByteArray) (df wf : Nat) (w : World) (ht : Tab w) (hs : s.size ≤ maxLen) :
    Calls Tryd.prog 9 #[.string s, .float .f64 df, .float .f64 wf] w fun e w' => e = .returned (.bool true) ∧ Below w.heap.size w w' := by
  unfold maxLen at hs
  have HT := Lib.hid ht
  clear ht
  by_cases hl : (3000 : Int) < s.size
  · go_enter Tryd.func9, Tryd.ntmps9
    go_wp2
    go_ret
    exact ⟨rfl, Below.refl _ _⟩
  have HS : Hid (s.size ≤ 3000) := Lib.hid (by omega)
  have hz : s.data.toList.length = s.size := by simp
  cases hf : wholeM (fun m => withinB m df) (fun m => withinB m wf) s.data.toList with
  | ok x k n =>
    obtain ⟨cs, ⟨r, i, ks⟩⟩ := x
    obtain ⟨hr1, hr2⟩ := fileM_right (wholeM_ok hf).1
    have HF := Lib.hid hf
    have HR := Lib.hid (And.intro hr1 hr2)
    clear hf hr1 hr2 hz
    go_enter Tryd.func9, Tryd.ntmps9
    go_wp2_with fail
    refine (parse_ok s df wf _ HT.out (by have := HS.out; omega) cs (.node r i ks) ⟨k, n, HF.out⟩).mono ?_
    rintro e w1 ⟨cv, v, rfl, hk1, hk2, h64a, h64b, hb1⟩
    obtain ⟨_, a1, c1, rfl⟩ := hk1.form
    obtain ⟨_, a2, c2, rfl⟩ := RepK.form hk2
    have HI := Lib.hid (And.intro h64a h64b)
    have HK : Hid (RepK (w1.alloc (.cells #[.slice a1 cs.length c1, .int .i64 r, .int .i64 i, .slice a2 ks.length c2] 26)) cs (.slice a1 cs.length c1) ∧ RepK (w1.alloc (.cells #[.slice a1 cs.length c1, .int .i64 r, .int .i64 i, .slice a2 ks.length c2] 26)) ks (.slice a2 ks.length c2)) := Lib.hid ⟨hk1.kept (below_alloc _ _), RepK.kept (below_alloc _ _) hk2⟩
    have HB0 : Hid (Below (w1.heap.size + 1) (w1.alloc (.cells #[.slice a1 cs.length c1, .int .i64 r, .int .i64 i, .slice a2 ks.length c2] 26)) (w1.alloc (.cells #[.slice a1 cs.length c1, .int .i64 r, .int .i64 i, .slice a2 ks.length c2] 26))) := Lib.hid (Below.refl _ _)
    have HBW := Lib.hid (hb1.trans ((below_alloc w1 (.cells #[.slice a1 cs.length c1, .int .i64 r, .int .i64 i, .slice a2 ks.length c2] 26)).mono hb1.size))
    have HZ : Hid ((w1.alloc (.cells #[.slice a1 cs.length c1, .int .i64 r, .int .i64 i, .slice a2 ks.length c2] 26)).heap.size = w1.heap.size + 1) := Lib.hid (by simp)
    have HZ1 := Lib.hid hb1.size
    clear h64a h64b hk1 hk2 hb1
    simp only [DT.kids, DT.rule, DT.idx, fileV] at *
    go_wp2_with fail
    refine (rrights_any cs _ _ HK.out.1).mono ?_
    rintro e w2 ⟨rfl, hb2⟩
    have HB2 := Lib.hid (HB0.out.trans (hb2.mono (Nat.le_of_eq HZ.out.symm)))
    have d0 : w2.cell? ⟨w1.heap.size, 0, none⟩ = some (.slice a1 cs.length c1) := box_cell HB2.out 0 (by simp)
    have d1 : w2.cell? ⟨w1.heap.size, 1, none⟩ = some (.int .i64 r) := box_cell HB2.out 1 (by simp)
    have d2 : w2.cell? ⟨w1.heap.size, 2, none⟩ = some (.int .i64 i) := box_cell HB2.out 2 (by simp)
    have d3 : w2.cell? ⟨w1.heap.size, 3, none⟩ = some (.slice a2 ks.length c2) := box_cell HB2.out 3 (by simp)
    clear hb2
    rw [HR.out.1]
    go_wp2_with fail
    refine (rright_any _ r i ks _ _ (Nat.lt_succ_self _) (HK.out.2.kept (HB2.out.mono (Nat.le_of_eq HZ.out))) HI.out.1 HI.out.2).mono ?_
    rintro e w3 ⟨rfl, hb3⟩
    have HB3 := Lib.hid (HB2.out.trans (hb3.mono (by have := HB2.out.size; rw [HZ.out] at this; exact this)))
    clear hb3 d0 d1 d2 d3
    rw [HR.out.2]
    have HBW3 := Lib.hid (HBW.out.trans (HB3.out.mono (by have := HZ1.out; omega)))
    go_wp2_with fail
    refine (wakes13 _ (HT.out.below HBW3.out)).mono ?_
    rintro e w4 ⟨rfl, hb4⟩
    have HB4 := Lib.hid (HBW3.out.trans (hb4.mono HBW3.out.size))
    clear hb4
    go_wp2
    go_ret
    exact ⟨rfl, HB4.out⟩
  | bad k y =>
    have hp := placeM_le s.data.toList k
    rw [hz] at hp
    have HF := Lib.hid hf
    clear hf hz
    go_enter Tryd.func9, Tryd.ntmps9
    go_wp2_with fail
    refine (parse_bad s df wf _ HT.out (by have := HS.out; omega) k y HF.out).mono ?_
    rintro e w1 ⟨he, hb1⟩
    have hb2 := hb1.trans ((below_alloc w1 (.cells #[.slice none 0 0, .int .i64 0, .int .i64 0, .slice none 0 0] 26)).mono hb1.size)
    have HB2 := Lib.hid hb2
    clear hb1 hb2
    generalize placeM s.data.toList k = pl at *
    cases y
    all_goals
      obtain rfl := he
      simp only [errOf, wordOf, fileV]
      go_wp2_with fail
      refine (wakes13 _ (HT.out.below HB2.out)).mono ?_
      rintro e w3 ⟨rfl, hb3⟩
      have HB3 := Lib.hid (HB2.out.trans (hb3.mono HB2.out.size))
      clear hb3
      go_wp2
      go_ret
      exact ⟨rfl, HB3.out⟩
end Go.Proofs.YtfpiogaakblpeaaDoor

namespace Go.Proofs.YtfpiogaakblpeaaDoor
open Go.RowKit

mutual
theorem nodes_tok : ∀ (d : DT), 3 * nodesD d ≤ (tokD d).length
  | .node r i ks => by have := nodess_tok ks; simp only [nodesD, tokD, List.length_cons, List.length_append, List.length_nil]; omega
theorem nodess_tok : ∀ (ks : List DT), 3 * nodesDs ks ≤ (tokDs ks).length
  | [] => by simp [nodesDs]
  | k :: ks => by have := nodes_tok k; have := nodess_tok ks; simp only [nodesDs, tokDs, List.length_append]; omega
end

theorem back_facts2 {cs : List DT} {d : DT} (hc : rightDs cs = true) (hr : rightD d = true) (hn : nodesDs cs + nodesD d ≤ 1000) :
    ∃ toks k n, lexL (showF cs d) = (toks, none) ∧ toks.map kt = tokF cs d ∧ wholeM (fun m => withinB m 4787326403894837248) (fun m => withinB m 4787326403894837248) (showF cs d) = .ok (cs, d) k n := by
  have h := lexE_file cs d hc hr
  unfold lexE eraseX at h
  obtain ⟨h3, h4⟩ := Prod.mk.inj h
  have hdd : max (deepDs cs) (deepD d) ≤ 1000 := by
    have h1 := deep_le_nodes d
    have h2 := deeps_le_nodes cs
    omega
  obtain ⟨k, n, h5⟩ := wholeM_back (dOK := fun m => withinB m 4787326403894837248) (nOK := fun m => withinB m 4787326403894837248) (M := 1000) (fun m hm => within_small m (by omega)) (fun m hm => within_small m (by omega)) hc hr hdd hn
  refine ⟨_, k, n, ?_, h3, h5⟩
  have h6 : (lexL (showF cs d)).2 = none := by simpa using h4
  rw [← h6]

theorem fixed_facts {text : List UInt8} {dOK nOK : Nat → Bool} {cs : List DT} {d : DT} {k n : Nat} (h : wholeM dOK nOK text = .ok (cs, d) k n) (hz : text.length ≤ 3000) :
    ∃ toks, lexL text = (toks, none) ∧ toks.map kt = tokF cs d ∧ rightDs cs = true ∧ rightD d = true ∧ nodesDs cs + nodesD d ≤ 1000 := by
  obtain ⟨h1, h2⟩ := wholeM_ok h
  have h3 := fileM_tok (tokOK_lexL text) h1
  obtain ⟨h4, h5⟩ := fileM_right h1
  have h6 := lexL_length text
  have h7 := congrArg List.length h3
  have h8 := nodes_tok d
  have h9 := nodess_tok cs
  simp only [List.length_map, tokF, List.length_cons, List.length_append, List.length_nil] at h7
  exact ⟨_, Prod.ext rfl h2, h3, h4, h5, by omega⟩
end Go.Proofs.YtfpiogaakblpeaaDoor
