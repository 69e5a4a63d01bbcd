/- Walks of transhipref11.Nodes, Deep. Walk of transhiplaw13.ParseLimits. -/
import Derived.Test.YtfpiogaakblpeaaDoorParL
import Derived.Test.YtfpiogaakblpeaaDoorFam
import Derived.Test.YtfpiogaakblpeaaDoorRight
import Derived.Test.YtfpiogaakblpeaaDoorLaw14d
import Derived.Test.YtfpiogaakblpeaaDoorFree
namespace Go.Proofs.YtfpiogaakblpeaaDoor
open Go.RowKit

theorem take_next {ks : List DT} {j : Nat} {k : DT} (h : ks[j]? = some k) : ks.take (j + 1) = ks.take j ++ [k] := by
  obtain ⟨hlt, he⟩ := List.getElem?_eq_some_iff.1 h
  rw [List.take_succ_eq_append_getElem hlt, he]
theorem nodesDs_take {ks : List DT} {j : Nat} {k : DT} (h : ks[j]? = some k) : nodesDs (ks.take (j + 1)) = nodesDs (ks.take j) + nodesD k := by
  rw [take_next h, nodesDs_append]; simp [nodesDs]
theorem deepDs_take {ks : List DT} {j : Nat} {k : DT} (h : ks[j]? = some k) : deepDs (ks.take (j + 1)) = max (deepDs (ks.take j)) (deepD k) := by
  rw [take_next h, deepDs_append]; simp [deepDs]
theorem nodesDs_take_le (ks : List DT) (j : Nat) : nodesDs (ks.take j) ≤ nodesDs ks := by
  have h := nodesDs_append (ks.take j) (ks.drop j)
  rw [List.take_append_drop] at h
  omega
theorem deepDs_take_le (ks : List DT) (j : Nat) : deepDs (ks.take j) ≤ deepDs ks := by
  have h := deepDs_append (ks.take j) (ks.drop j)
  rw [List.take_append_drop] at h
  omega

set_option maxRecDepth 100000 in
set_option maxHeartbeats 4000000 in
theorem nodes_any : ∀ (N : Nat) (r i : Int) (ks : List DT) (v : Value) (w : World), SizeOf.sizeOf (DT.node r i ks) < N → RepK w ks v → nodesD (.node r i ks) ≤ 1099511627776 →
    Calls Tryd.prog 25 #[derivV r i v] w fun e w' => e = .returned (.int .i64 (nodesD (.node r i ks) : Nat)) ∧ Below w.heap.size w w' := by
  intro N
  induction N with
  | zero => intro r i ks v w h; omega
  | succ N ih =>
    intro r i ks v w hN hrep hn
    have hval : nodesD (.node r i ks) = 1 + nodesDs ks := rfl
    rw [hval] at hn ⊢
    clear hval
    obtain ⟨hlen, a, c, rfl⟩ := hrep.form
    unfold maxLen at hlen
    have HR := Lib.hid hrep
    clear hrep
    unfold derivV
    have HB0 : Hid (Below (w.heap.size + 1) (w.alloc (.cells #[.int .i64 r, .int .i64 i, .slice a ks.length c] 24)) (w.alloc (.cells #[.int .i64 r, .int .i64 i, .slice a ks.length c] 24))) := Lib.hid (Below.refl _ _)
    go_enter Tryd.func25, Tryd.ntmps25
    go_wp2_with fail
    go_loopw [3, 4] (fun nx ix wr => ∃ (j : Nat), ix = .int .i64 j ∧ nx = .int .i64 ((1 + nodesDs (ks.take j) : Nat) : Int) ∧ j ≤ ks.length ∧ Below (w.heap.size + 1) (w.alloc (.cells #[.int .i64 r, .int .i64 i, .slice a ks.length c] 24)) wr) (fun _ i _ => ks.length - (intOf i).toNat)
    case atStart => exact ⟨0, rfl, by simp [nodesDs], by omega, HB0.out⟩
    case round =>
      obtain ⟨j, rfl, rfl, hj, hbel⟩ := hrel
      have hB := below_of_box hbel
      have hsz : w.heap.size + 1 ≤ wr.heap.size := by simpa using hbel.size
      have hc2 : wr.cell? ⟨w.heap.size, 2, none⟩ = some (.slice a ks.length c) := by rw [box_cell hbel 2 (by simp)]; rfl
      by_cases hlt : j < ks.length
      · obtain ⟨b, o, r1, i1, l1, v1, rfl, _, hbs, hj1, e0, e1, e2, hr1, hi1, hk1⟩ := (HR.out.kept hB).at j hlt
        have hd := nodesDs_take hj1
        have hle := nodesDs_take_le ks (j + 1)
        have hlt1 := DT.lt hj1 r i
        have HS := Lib.hid (And.intro hd hk1)
        have HB := Lib.hid (And.intro hbel hB)
        have hn1 : nodesD (.node r1 i1 l1) ≤ 1099511627776 := by omega
        have hn2 : nodesDs (ks.take j) + nodesD (.node r1 i1 l1) ≤ 1099511627776 := by omega
        clear hk1 hr1 hi1 hj1 hbel hB hd
        go_wp2_with fail
        refine (ih r1 i1 l1 _ _ (by omega) HS.out.2 hn1).mono ?_
        rintro e w2 ⟨rfl, hb2⟩
        have HB2 := Lib.hid (hb2.mono hsz)
        clear hb2
        go_wp2
        go_roundw
        case rel => exact ⟨j + 1, by go_num, by rw [HS.out.1]; go_num, by omega, HB.out.1.trans HB2.out⟩
        case measure => simp [intOf]; omega
      · have hjl : j = ks.length := by omega
        subst hjl
        have HF := Lib.hid hB
        clear hbel hB
        rw [List.take_length]
        go_wp2
        go_ret
        exact ⟨rfl, HF.out⟩

set_option maxRecDepth 100000 in
set_option maxHeartbeats 4000000 in
theorem deep_any : ∀ (N : Nat) (r i : Int) (ks : List DT) (v : Value) (w : World), SizeOf.sizeOf (DT.node r i ks) < N → RepK w ks v → deepD (.node r i ks) ≤ 1099511627776 →
    Calls Tryd.prog 26 #[derivV r i v] w fun e w' => e = .returned (.int .i64 (deepD (.node r i ks) : Nat)) ∧ Below w.heap.size w w' := by
  intro N
  induction N with
  | zero => intro r i ks v w h; omega
  | succ N ih =>
    intro r i ks v w hN hrep hn
    have hval : deepD (.node r i ks) = deepDs ks + 1 := rfl
    rw [hval] at hn ⊢
    clear hval
    obtain ⟨hlen, a, c, rfl⟩ := hrep.form
    unfold maxLen at hlen
    have HR := Lib.hid hrep
    clear hrep
    unfold derivV
    have HB0 : Hid (Below (w.heap.size + 1) (w.alloc (.cells #[.int .i64 r, .int .i64 i, .slice a ks.length c] 24)) (w.alloc (.cells #[.int .i64 r, .int .i64 i, .slice a ks.length c] 24))) := Lib.hid (Below.refl _ _)
    go_enter Tryd.func26, Tryd.ntmps26
    go_wp2_with fail
    go_loopw [3, 4] (fun nx ix wr => ∃ (j : Nat), ix = .int .i64 j ∧ nx = .int .i64 ((deepDs (ks.take j) : Nat) : Int) ∧ j ≤ ks.length ∧ Below (w.heap.size + 1) (w.alloc (.cells #[.int .i64 r, .int .i64 i, .slice a ks.length c] 24)) wr) (fun _ i _ => ks.length - (intOf i).toNat)
    case atStart => exact ⟨0, rfl, by simp [deepDs], by omega, HB0.out⟩
    case round =>
      obtain ⟨j, rfl, rfl, hj, hbel⟩ := hrel
      have hB := below_of_box hbel
      have hsz : w.heap.size + 1 ≤ wr.heap.size := by simpa using hbel.size
      have hc2 : wr.cell? ⟨w.heap.size, 2, none⟩ = some (.slice a ks.length c) := by rw [box_cell hbel 2 (by simp)]; rfl
      by_cases hlt : j < ks.length
      · obtain ⟨b, o, r1, i1, l1, v1, rfl, _, hbs, hj1, e0, e1, e2, hr1, hi1, hk1⟩ := (HR.out.kept hB).at j hlt
        have hd := deepDs_take hj1
        have hle := deepDs_take_le ks (j + 1)
        have hlt1 := DT.lt hj1 r i
        have HS := Lib.hid (And.intro hd hk1)
        have HB := Lib.hid (And.intro hbel hB)
        have hn1 : deepD (.node r1 i1 l1) ≤ 1099511627776 := by omega
        clear hk1 hr1 hi1 hj1 hbel hB hd
        go_wp2_with fail
        refine (ih r1 i1 l1 _ _ (by omega) HS.out.2 hn1).mono ?_
        rintro e w2 ⟨rfl, hb2⟩
        have HB2 := Lib.hid (hb2.mono hsz)
        clear hb2
        go_wp2
        go_roundw
        case rel => exact ⟨j + 1, by go_num, by rw [HS.out.1]; go_num, by omega, HB.out.1.trans HB2.out⟩
        case measure => simp [intOf]; omega
      · have hjl : j = ks.length := by omega
        subst hjl
        have HF := Lib.hid hB
        clear hbel hB
        rw [List.take_length]
        go_wp2
        go_ret
        exact ⟨rfl, HF.out⟩
end Go.Proofs.YtfpiogaakblpeaaDoor

namespace Go.Proofs.YtfpiogaakblpeaaDoor
open Go.RowKit

set_option maxRecDepth 100000 in
set_option maxHeartbeats 4000000 in
theorem parseLimits_walk (s : ByteArray) (D N : Int) (w : World) (ht : Tab w) (hs : s.size ≤ maxLen) :
    Calls Tryd.prog 7 #[.string s, .int .i64 D, .int .i64 N] w fun e w' => e = .returned (.bool true) ∧ Below w.heap.size w w' := by
  have HT := Lib.hid ht
  clear ht
  unfold maxLen at hs
  by_cases hl : (3000 : Int) < s.size
  · go_enter Tryd.func7, Tryd.ntmps7
    go_wp2
    go_ret
    exact ⟨rfl, Below.refl _ _⟩
  by_cases h1 : D < 0
  · go_enter Tryd.func7, Tryd.ntmps7
    go_wp2
    go_ret
    exact ⟨rfl, Below.refl _ _⟩
  by_cases h2 : N < 0
  · go_enter Tryd.func7, Tryd.ntmps7
    go_wp2
    go_ret
    exact ⟨rfl, Below.refl _ _⟩
  by_cases h3 : (1099511627776 : Int) < D
  · go_enter Tryd.func7, Tryd.ntmps7
    go_wp2
    go_ret
    exact ⟨rfl, Below.refl _ _⟩
  by_cases h4 : (1099511627776 : Int) < N
  · go_enter Tryd.func7, Tryd.ntmps7
    go_wp2
    go_ret
    exact ⟨rfl, Below.refl _ _⟩
  have HS : Hid (s.size ≤ 3000) := Lib.hid (by omega)
  have hz : s.data.toList.length = s.size := by simp
  obtain ⟨dp, rfl⟩ : ∃ dp : Nat, D = dp := ⟨D.toNat, by omega⟩
  obtain ⟨nd, rfl⟩ : ∃ nd : Nat, N = nd := ⟨N.toNat, by omega⟩
  cases hf : wholeM (fun m => withinB m 4787326403894837248) (fun m => withinB m 4787326403894837248) s.data.toList with
  | bad k y =>
    obtain rfl := whole_bad40 (by have := HS.out; omega) hf
    have HF := Lib.hid hf
    clear hf hz
    go_enter Tryd.func7, Tryd.ntmps7
    go_wp2_with fail
    refine (parse_bad s _ _ _ HT.out (by have := HS.out; omega) k .parse HF.out).mono ?_
    rintro e w1 ⟨he, hb1⟩
    generalize placeM s.data.toList k = pl at *
    obtain rfl := he
    have HBW := Lib.hid (hb1.trans ((below_alloc w1 (.cells #[.slice none 0 0, .int .i64 0, .int .i64 0, .slice none 0 0] 26)).mono hb1.size))
    clear hb1
    simp only [errOf, wordOf, fileV]
    go_wp2_with fail
    refine (wakes13 _ (HT.out.below HBW.out)).mono ?_
    rintro e w5 ⟨rfl, hb5⟩
    have HB5 := Lib.hid (HBW.out.trans (hb5.mono HBW.out.size))
    clear hb5
    go_wp2
    go_ret
    exact ⟨rfl, HB5.out⟩
  | ok x k n =>
    obtain ⟨cs, ⟨r, i, ks⟩⟩ := x
    obtain ⟨_, _, _, _, _, hn⟩ := fixed_facts hf (by have := HS.out; omega)
    have hdeep : max (deepDs cs) (deepD (.node r i ks)) ≤ 1000 := by
      have a1 := deep_le_nodes (.node r i ks)
      have a2 := deeps_le_nodes cs
      omega
    obtain ⟨hlim1, hlim2⟩ := whole_lim hf dp nd (by omega) (by omega)
    have HF := Lib.hid hf
    have HLIM := Lib.hid (And.intro hlim1 hlim2)
    have HN := Lib.hid (And.intro hn hdeep)
    clear hf hlim1 hlim2 hn hdeep hz
    go_enter Tryd.func7, Tryd.ntmps7
    go_wp2_with fail
    refine (parse_ok s _ _ _ HT.out (by have := HS.out; omega) cs (.node r i ks) ⟨k, n, HF.out⟩).mono ?_
    rintro e w1 ⟨cv, v, rfl, hk1, hk2, _, _, hb1⟩
    obtain ⟨_, b1, c1, rfl⟩ := hk1.form
    obtain ⟨_, b2, c2, rfl⟩ := RepK.form hk2
    have hcl : cs.length ≤ 9223372036854775807 := by have := hk1.form; unfold maxLen at this; omega
    have HK : Hid (RepK (w1.alloc (.cells #[.slice b1 cs.length c1, .int .i64 r, .int .i64 i, .slice b2 ks.length c2] 26)) cs (.slice b1 cs.length c1) ∧ RepK (w1.alloc (.cells #[.slice b1 cs.length c1, .int .i64 r, .int .i64 i, .slice b2 ks.length c2] 26)) ks (.slice b2 ks.length c2)) := Lib.hid ⟨hk1.kept (below_alloc _ _), RepK.kept (below_alloc _ _) hk2⟩
    have HB0 : Hid (Below (w1.heap.size + 1) (w1.alloc (.cells #[.slice b1 cs.length c1, .int .i64 r, .int .i64 i, .slice b2 ks.length c2] 26)) (w1.alloc (.cells #[.slice b1 cs.length c1, .int .i64 r, .int .i64 i, .slice b2 ks.length c2] 26))) := Lib.hid (Below.refl _ _)
    have HBW := Lib.hid (hb1.trans ((below_alloc w1 (.cells #[.slice b1 cs.length c1, .int .i64 r, .int .i64 i, .slice b2 ks.length c2] 26)).mono hb1.size))
    have HZ : Hid ((w1.alloc (.cells #[.slice b1 cs.length c1, .int .i64 r, .int .i64 i, .slice b2 ks.length c2] 26)).heap.size = w1.heap.size + 1) := Lib.hid (by simp)
    clear hk1 hk2 hb1
    simp only [DT.kids, DT.rule, DT.idx, fileV] at *
    go_wp2_with fail
    obtain ⟨σ, f, hne, hff, hcov⟩ := fam (w1.heap.size + 1) (w1.alloc (.cells #[.slice b1 cs.length c1, .int .i64 r, .int .i64 i, .slice b2 ks.length c2] 26)) (by simp)
    have hc1 : ∀ s, (f s).cell? ⟨w1.heap.size, 1, none⟩ = some (.int .i64 r) := fun s => box_cell (hff s).1 1 (by simp)
    have hc2 : ∀ s, (f s).cell? ⟨w1.heap.size, 2, none⟩ = some (.int .i64 i) := fun s => box_cell (hff s).1 2 (by simp)
    have hc3 : ∀ s, (f s).cell? ⟨w1.heap.size, 3, none⟩ = some (.slice b2 ks.length c2) := fun s => box_cell (hff s).1 3 (by simp)
    have HFF := Lib.hid hff
    have HCOV := Lib.hid hcov
    clear hff hcov
    refine wp_region_fam_lit f (by kernel_rfl) (by kernel_rfl) (HCOV.out _ (Below.refl _ _).drew) ?_
    repeat (go_big_quiet_step ((first
      | (go_at_call 25; exact calls_fam HFF.out HCOV.out (nodes_any _ r i ks _ _ (Nat.lt_succ_self _) (HK.out.2.kept ((HFF.out _).1.mono (Nat.le_of_eq HZ.out))) (by have := HN.out.1; omega)))
      | (go_at_call 26; exact calls_fam HFF.out HCOV.out (deep_any _ r i ks _ _ (Nat.lt_succ_self _) (HK.out.2.kept ((HFF.out _).1.mono (Nat.le_of_eq HZ.out))) (by have := HN.out.2; omega))))))
    refine wpQuiet_nil ?_
    rintro _ ⟨sq, rfl⟩
    have HFS := Lib.hid (HFF.out sq)
    clear HFF HCOV hc1 hc2 hc3
    generalize f sq = wf at HFS
    go_wp2_with fail
    go_loopw [11, 12, 13] (fun nx dx ix wr => ∃ (j : Nat), ix = .int .i64 j ∧ nx = .int .i64 ((nodesDs (cs.take j) + nodesD (.node r i ks) : Nat) : Int) ∧ dx = .int .i64 ((max (deepDs (cs.take j)) (deepD (.node r i ks)) : Nat) : Int) ∧ j ≤ cs.length ∧ Below (w1.heap.size + 1) (w1.alloc (.cells #[.slice b1 cs.length c1, .int .i64 r, .int .i64 i, .slice b2 ks.length c2] 26)) wr) (fun _ _ i _ => cs.length - (intOf i).toNat)
    case atStart => exact ⟨0, rfl, by simp [nodesDs], by simp [deepDs], by omega, HFS.out.1⟩
    case round =>
      obtain ⟨j, rfl, rfl, rfl, hj, hbel⟩ := hrel
      have hsz : w1.heap.size + 1 ≤ wr.heap.size := by have := hbel.size; rw [HZ.out] at this; exact this
      have hc0 : wr.cell? ⟨w1.heap.size, 0, none⟩ = some (.slice b1 cs.length c1) := by rw [box_cell hbel 0 (by simp)]; rfl
      by_cases hlt : j < cs.length
      · obtain ⟨b, o, r1, i1, l1, v1, rfl, _, hbs, hj1, e0, e1, e2, hr1, hi1, hkk⟩ := (HK.out.1.kept (hbel.mono (Nat.le_of_eq HZ.out))).at j hlt
        have hd := nodesDs_take hj1
        have hle := nodesDs_take_le cs (j + 1)
        have hd2 := deepDs_take hj1
        have hle2 := deepDs_take_le cs (j + 1)
        have hn1 : nodesDs (cs.take j) + nodesD (.node r i ks) + nodesD (.node r1 i1 l1) ≤ 1000 := by have := HN.out.1; omega
        have hn2 : deepD (.node r1 i1 l1) ≤ 1000 := by have := HN.out.2; omega
        have hn3 : deepDs (cs.take j) ≤ 1000 := by have := HN.out.2; omega
        have HS1 := Lib.hid (And.intro hd (And.intro hd2 hkk))
        have HBr := Lib.hid hbel
        clear hd hd2 hle hle2 hkk hr1 hi1 hj1 hbel
        go_wp2_with fail
        refine (nodes_any _ r1 i1 l1 _ _ (Nat.lt_succ_self _) HS1.out.2.2 (by omega)).mono ?_
        rintro e w2 ⟨rfl, hb2⟩
        have HB2 := Lib.hid hb2
        have HBr2 := Lib.hid (HBr.out.trans (hb2.mono hsz))
        have hc0 : w2.cell? ⟨w1.heap.size, 0, none⟩ = some (.slice (some ⟨b, o, none⟩) cs.length c1) := by rw [box_cell HBr2.out 0 (by simp)]; rfl
        have q0 : w2.cell? ⟨b, o + j * 3, none⟩ = _ := (hb2.cell (p := ⟨b, o + j * 3, none⟩) hbs).trans e0
        have q1 : w2.cell? ⟨b, o + j * 3 + 1, none⟩ = _ := (hb2.cell (p := ⟨b, o + j * 3 + 1, none⟩) hbs).trans e1
        have q2 : w2.cell? ⟨b, o + j * 3 + 2, none⟩ = _ := (hb2.cell (p := ⟨b, o + j * 3 + 2, none⟩) hbs).trans e2
        clear hb2 e0 e1 e2
        go_wp2_with fail
        refine (deep_any _ r1 i1 l1 _ _ (Nat.lt_succ_self _) (HS1.out.2.2.kept HB2.out) (by omega)).mono ?_
        rintro e w3 ⟨rfl, hb3⟩
        have HBr3 := Lib.hid (HBr2.out.trans (hb3.mono (Nat.le_trans hsz HB2.out.size)))
        clear hb3 q0 q1 q2 hc0
        go_wp2
        go_roundw
        case rel => exact ⟨j + 1, by go_num, by rw [HS1.out.1]; go_num, by rw [HS1.out.2.1]; go_num, by omega, HBr3.out⟩
        case measure => simp [intOf]; omega
      · have hjl : j = cs.length := by omega
        subst hjl
        have HBr := Lib.hid (HBW.out.trans (hbel.mono (by have := HBW.out.size; rw [HZ.out] at this; exact this)))
        clear hbel
        rw [List.take_length]
        obtain ⟨nn, hnn⟩ : ∃ nn, nodesDs cs + nodesD (.node r i ks) = nn := ⟨_, rfl⟩
        obtain ⟨mm, hmm⟩ : ∃ mm, max (deepDs cs) (deepD (.node r i ks)) = mm := ⟨_, rfl⟩
        have hlm := HLIM.out
        rw [hnn, hmm] at hlm
        rw [hnn, hmm]
        have hnn2 : nn ≤ 1000 := by rw [← hnn]; exact HN.out.1
        have hmm2 : mm ≤ 1000 := by rw [← hmm]; exact HN.out.2
        clear hnn hmm HLIM
        by_cases hin : mm ≤ dp ∧ nn ≤ nd
        · have hw := hlm.1 hin
          have HW := Lib.hid hw
          clear hlm hw
          have hm1 := hin.1
          have hm2 := hin.2
          go_wp2_with fail
          refine (parse_ok s _ _ _ (HT.out.below HBr.out) (by have := HS.out; omega) cs (.node r i ks) HW.out).mono ?_
          rintro e w3 ⟨cv3, v3, rfl, hk3, hk4, _, _, hb3⟩
          obtain ⟨_, b3, c3, rfl⟩ := hk3.form
          obtain ⟨_, b4, c4, rfl⟩ := RepK.form hk4
          have HBW3 := Lib.hid ((HBr.out.trans (hb3.mono HBr.out.size)).trans ((below_alloc w3 (.cells #[.slice b3 cs.length c3, .int .i64 r, .int .i64 i, .slice b4 ks.length c4] 26)).mono (Nat.le_trans HBr.out.size hb3.size)))
          clear hb3 hk3 hk4
          simp only [DT.kids, DT.rule, DT.idx, fileV] at *
          go_wp2_with fail
          refine (wakes13 _ (HT.out.below HBW3.out)).mono ?_
          rintro e w5 ⟨rfl, hb5⟩
          have HB5 := Lib.hid (HBW3.out.trans (hb5.mono HBW3.out.size))
          clear hb5
          go_wp2
          go_ret
          exact ⟨rfl, HB5.out⟩
        obtain ⟨k2, hw⟩ := hlm.2 hin
        rcases hw with ⟨hw, hm⟩ | ⟨hw, hm⟩
        · have HW := Lib.hid hw
          clear hlm hw hin
          go_wp2_with fail
          refine (parse_bad s _ _ _ (HT.out.below HBr.out) (by have := HS.out; omega) k2 .deep HW.out).mono ?_
          rintro e w3 ⟨he, hb3⟩
          generalize placeM s.data.toList k2 = pl at *
          obtain rfl := he
          have HBW3 := Lib.hid ((HBr.out.trans (hb3.mono HBr.out.size)).trans ((below_alloc w3 (.cells #[.slice none 0 0, .int .i64 0, .int .i64 0, .slice none 0 0] 26)).mono (Nat.le_trans HBr.out.size hb3.size)))
          clear hb3
          simp only [errOf, wordOf, fileV]
          go_wp2_with fail
          refine (wakes13 _ (HT.out.below HBW3.out)).mono ?_
          rintro e w5 ⟨rfl, hb5⟩
          have HB5 := Lib.hid (HBW3.out.trans (hb5.mono HBW3.out.size))
          clear hb5
          go_wp2
          go_ret
          exact ⟨rfl, HB5.out⟩
        · have HW := Lib.hid hw
          clear hlm hw hin
          by_cases hd : mm ≤ dp
          all_goals
            go_wp2_with fail
            refine (parse_bad s _ _ _ (HT.out.below HBr.out) (by have := HS.out; omega) k2 .nodes HW.out).mono ?_
            rintro e w3 ⟨he, hb3⟩
            generalize placeM s.data.toList k2 = pl at *
            obtain rfl := he
            have HBW3 := Lib.hid ((HBr.out.trans (hb3.mono HBr.out.size)).trans ((below_alloc w3 (.cells #[.slice none 0 0, .int .i64 0, .int .i64 0, .slice none 0 0] 26)).mono (Nat.le_trans HBr.out.size hb3.size)))
            clear hb3
            simp only [errOf, wordOf, fileV]
            go_wp2_with fail
            refine (wakes13 _ (HT.out.below HBW3.out)).mono ?_
            rintro e w5 ⟨rfl, hb5⟩
            have HB5 := Lib.hid (HBW3.out.trans (hb5.mono HBW3.out.size))
            clear hb5
            go_wp2
            go_ret
            exact ⟨rfl, HB5.out⟩
end Go.Proofs.YtfpiogaakblpeaaDoor
