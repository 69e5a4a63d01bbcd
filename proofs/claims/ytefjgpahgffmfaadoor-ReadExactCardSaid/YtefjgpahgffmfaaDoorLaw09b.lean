/- Walks of transhiplaw09.great, ReadRight; a slice of strings among the arguments, opened. -/
import Derived.Test.YtefjgpahgffmfaaDoorLaw09
import Derived.Test.YtefjgpahgffmfaaDoorRm
import Derived.SliceStrings
namespace Go.Proofs.YtefjgpahgffmfaaDoor
open Go.RowKit

theorem cellsString : Tryd.prog.cellsOf 9 = 1 := by kernel_rfl
set_option maxRecDepth 100000 in
theorem texts_of {H : Type} {enc : TypeId × Value → H} {W : World} {base fuel : Nat} {a : Option Addr} {n c : Nat} {x : DataW H × List MemPlace}
    (hv : Value.okWide Tryd.prog W .any base 32 (.slice a n c)) (h : DataW.trod enc Tryd.prog W 0 (fun _ => true) true fuel 32 (Value.slice a n c).cells.toList = some x) :
    ∃ nm : List (List UInt8), nm.length = n ∧ Has W 1 (.slice a n c) n (textRow nm) := by
  rcases Go.ChangeShapes.open_strings Tryd.underlying32 Tryd.underlying9 cellsString h with ⟨hcs, _⟩ | ⟨a', n', c', ss, hcs, _, hl, hm, hz, _, hcell, _⟩
  · simp [Value.cells] at hcs
    obtain ⟨rfl, rfl, rfl⟩ := hcs
    exact ⟨[], rfl, Has.nil W 1⟩
  · simp [Value.cells] at hcs
    obtain ⟨rfl, rfl, rfl⟩ := hcs
    have hz2 : ss.length = c := by simpa using hz
    have hsp : a'.spot = none ∧ a'.block < W.heap.size := by
      simp only [Value.okWide, Tryd.underlying32, Go.Cell.okWide, Go.Cell.ok, Go.World.has] at hv
      obtain ⟨_, _, _, h1, row, cells, h2, _⟩ := hv
      refine ⟨h1, ?_⟩
      unfold World.shape? at h2
      rcases Nat.lt_or_ge a'.block W.heap.size with h | h
      · exact h
      · simp [Array.getElem?_eq_none h] at h2
    obtain ⟨b, o, sp⟩ := a'
    obtain ⟨rfl, hlt⟩ := hsp
    refine ⟨(ss.take n).map fun s => s.data.toList, by simp; omega, ⟨by simp [textRow]; omega, .inr ⟨b, o, c, rfl, by omega, hlt, fun j hj => ?_⟩⟩⟩
    rw [Nat.mul_one] at hj
    have h1 := hcell j (by omega)
    have h2 : ss[j]? = some (ss[j]'(by omega)) := List.getElem?_eq_getElem (by omega)
    have h3 : (textRow ((ss.take n).map fun s => s.data.toList))[j]? = some (.string (ss[j]'(by omega))) := by
      simp [textRow, hj, h2]
    rw [h3]
    rw [List.getD_eq_getElem?_getD, h2] at h1
    by_cases hj0 : j = 0
    · subst hj0; simpa [Addr.add] using h1
    · simpa [Addr.add, hj0] using h1

/-- transhiplaw09.great -/
def greatN (nm : List (List UInt8)) : Bool := decide (60 < nm.length) || nm.any fun s => decide (60 < s.length)

set_option maxRecDepth 100000 in
set_option maxHeartbeats 4000000 in
theorem greatN_any (nm : List (List UInt8)) (v : Value) (w : World) (hN : Has w 1 v nm.length (textRow nm)) :
    Calls Tryd.prog 24 #[v] w fun e w' => e = .returned (.bool (greatN nm)) ∧ w = w' := by
  have hmax : maxLen = 9223372036854775807 := by decide +kernel
  obtain ⟨a, c, rfl⟩ : ∃ a c, v = .slice a nm.length c := by
    rcases hN.2 with ⟨rfl, h0⟩ | ⟨bt, o, c, rfl, _⟩
    · exact ⟨none, 0, by rw [h0]⟩
    · exact ⟨_, _, rfl⟩
  rcases Bool.eq_false_or_eq_true (decide ((60 : Int) < (nm.length : Int))) with h60 | h60
  · have hg : greatN nm = true := by
      have : 60 < nm.length := by have := of_decide_eq_true h60; omega
      simp [greatN, this]
    rw [hg]
    go_enter Tryd.func24, Tryd.ntmps24
    go_wp2
    go_ret
    exact ⟨rfl, rfl⟩
  have hle : nm.length ≤ 60 := by have := of_decide_eq_false h60; omega
  have HN := Lib.hid hN
  have HLE := Lib.hid hle
  have HG : Hid (greatN nm = nm.any fun s => decide (60 < s.length)) := Lib.hid (by
    have : decide (60 < nm.length) = false := by simp; omega
    simp [greatN, this])
  clear hN hmax hle
  go_enter Tryd.func24, Tryd.ntmps24
  go_wp2_with fail
  go_loop [3] (fun i => ∃ k : Nat, k ≤ nm.length ∧ i = .int .i64 k ∧ ∀ s ∈ nm.take k, s.length ≤ 60) (fun i => nm.length - (intOf i).toNat)
  case atStart => exact ⟨0, Nat.zero_le _, rfl, by simp⟩
  case round =>
    obtain ⟨k, hk, rfl, hall⟩ := hrel
    have HALL := Lib.hid hall
    clear hall
    have hle := HLE.out
    by_cases hlt : k < nm.length
    · obtain ⟨t, ht⟩ : ∃ t, nm[k]? = some t := ⟨nm[k], List.getElem?_eq_getElem hlt⟩
      have hat : (textRow nm)[k]? = some (.string ⟨t.toArray⟩) := by simp [textRow, ht]
      have HT := Lib.hid ht
      rcases HN.out.2 with ⟨_, h0⟩ | ⟨b, o, c', he, _, hb, hc⟩
      · omega
      · injection he with h1 h2 h3
        subst h1 h3
        have a0 := (hc k (by omega)).trans hat
        clear hc hat ht
        by_cases hq : t.length ≤ 60
        · have HQ := Lib.hid hq
          have g1 : decide ((60 : Int) < (t.length : Int)) = false := by simp; omega
          go_wp2
          go_round
          case rel =>
            refine ⟨k + 1, by omega, by go_num, fun s hs => ?_⟩
            rw [List.take_add_one, HT.out] at hs
            rcases List.mem_append.1 hs with h | h
            · exact HALL.out s h
            · simp at h; subst h; exact HQ.out
          case measure => simp [intOf]; omega
        · have hg : greatN nm = true := by
            rw [HG.out]
            exact List.any_eq_true.2 ⟨t, List.mem_of_getElem? HT.out, by simpa using hq⟩
          have g1 : decide ((60 : Int) < (t.length : Int)) = true := by simp; omega
          go_wp2
          go_ret
          exact ⟨rfl, rfl⟩
    · have hg : greatN nm = false := by
        rw [HG.out, ← Bool.not_eq_true, List.any_eq_true]
        rintro ⟨s, hs, h⟩
        have := HALL.out s (by rw [List.take_of_length_le (by omega)]; exact hs)
        simp at h; omega
      go_wp2
      go_ret
      exact ⟨rfl, rfl⟩

set_option maxRecDepth 100000 in
set_option maxHeartbeats 4000000 in
theorem readRight_walk (s : ByteArray) (nm : List (List UInt8)) (v : Value) (i j : Int) (w : World) (hN : Has w 1 v nm.length (textRow nm)) (hi : In64 i) (hj : In64 j) (ht : Tab w) :
    Calls Tryd.prog 7 #[.string s, v, .int .i64 i, .int .i64 j] w fun e w' => e = .returned (.bool true) ∧ Below w.heap.size w w' := by
  have HT := Lib.hid ht
  have HN := Lib.hid hN
  have HI := Lib.hid (And.intro hi hj)
  obtain ⟨a, c, rfl⟩ : ∃ a c, v = .slice a nm.length c := by
    rcases hN.2 with ⟨rfl, h0⟩ | ⟨bt, o, c, rfl, _⟩
    · exact ⟨none, 0, by rw [h0]⟩
    · exact ⟨_, _, rfl⟩
  clear ht hN hi hj
  rcases Bool.eq_false_or_eq_true (decide ((2000 : Int) < (s.size : Int))) with hl | hl
  · go_enter Tryd.func7, Tryd.ntmps7
    go_wp2
    go_ret
    exact ⟨rfl, Below.refl _ _⟩
  have HL : Hid (s.size ≤ 2000) := Lib.hid (by have := of_decide_eq_false hl; omega)
  go_enter Tryd.func7, Tryd.ntmps7
  go_wp2_with fail
  refine (greatN_any nm _ w HN.out).mono ?_
  rintro e _ ⟨rfl, rfl⟩
  cases hg : greatN nm
  case true =>
    clear hg
    go_wp2
    go_ret
    exact ⟨rfl, Below.refl _ _⟩
  have HLN : Hid (nm.length ≤ 60) := Lib.hid (by
    unfold greatN at hg
    simp only [Bool.or_eq_false_iff, decide_eq_false_iff_not] at hg
    omega)
  clear hg
  by_cases hij : (0 ≤ i ∧ i ≤ 1000) ∧ (0 ≤ j ∧ j ≤ 1000)
  case neg =>
    go_wp2_with fail
    refine (read_arg s w i j (by omega) HI.out.1 HI.out.2).mono ?_
    rintro e w1 ⟨rfl, hb⟩
    have HB1 : Hid (Below w.heap.size w w1) := Lib.hid hb
    have HX : Hid ((w1.alloc (.cells #[.int .i64 0, .int .i64 0, .int .i64 0, .int .i64 0, .slice none 0 0] 24)).heap[w1.heap.size]? = some (.cells #[.int .i64 0, .int .i64 0, .int .i64 0, .int .i64 0, .slice none 0 0] 24 (0, 0))) := Lib.hid (new_heap _ _ _)
    obtain ⟨x0, x1, x2, x3, x4⟩ := box_cells5 HX.out
    clear hb hij
    unfold termV
    go_wp2_with fail
    refine (wakes09 _ (HT.out.below (HB1.out.trans ((below_alloc _ _).mono HB1.out.size)))).mono ?_
    rintro e w2 ⟨rfl, hb⟩
    have HB2 : Hid (Below w.heap.size w w2) := Lib.hid (HB1.out.trans ((below_alloc w1 (.cells #[.int .i64 0, .int .i64 0, .int .i64 0, .int .i64 0, .slice none 0 0] 24)).mono HB1.out.size |>.trans (hb.mono (Nat.le_trans HB1.out.size (below_alloc _ _).size))))
    clear hb x0 x1 x2 x3 x4
    go_wp2
    go_ret
    exact ⟨rfl, HB2.out⟩
  obtain ⟨⟨i0, i1⟩, j0, j1⟩ := hij
  obtain ⟨I, rfl⟩ := Int.eq_ofNat_of_zero_le i0
  obtain ⟨J, rfl⟩ := Int.eq_ofNat_of_zero_le j0
  have HIJ : Hid (I ≤ 1000 ∧ J ≤ 1000) := Lib.hid ⟨by omega, by omega⟩
  clear i0 i1 j0 j1
  cases hr : readM s.data.toList nm I J with
  | bad q =>
    have HP : Hid (decide ((0 : Int) ≤ ((placeM s.data.toList q : Nat) : Int)) = true ∧ decide (((placeM s.data.toList q : Nat) : Int) ≤ (s.size : Int)) = true) := Lib.hid (by
      have h1 := placeM_le s.data.toList q
      have h2 : s.data.toList.length = s.size := by simp
      exact ⟨decide_eq_true (by omega), decide_eq_true (by omega)⟩)
    go_wp2_with fail
    refine (read_bad s I J w HT.out (Nat.le_trans HL.out (by decide)) HN.out (Nat.le_trans HLN.out (by decide)) HIJ.out hr rfl).mono ?_
    rintro e w1 ⟨rfl, hb⟩
    have HB1 : Hid (Below w.heap.size w w1) := Lib.hid hb
    have HX : Hid ((w1.alloc (.cells #[.int .i64 0, .int .i64 0, .int .i64 0, .int .i64 0, .slice none 0 0] 24)).heap[w1.heap.size]? = some (.cells #[.int .i64 0, .int .i64 0, .int .i64 0, .int .i64 0, .slice none 0 0] 24 (0, 0))) := Lib.hid (new_heap _ _ _)
    obtain ⟨x0, x1, x2, x3, x4⟩ := box_cells5 HX.out
    obtain ⟨p0, p1⟩ := HP.out
    have p2 : decide (placeM s.data.toList q ≤ s.size) = true := decide_eq_true (by have := of_decide_eq_true p1; omega)
    have p3 : ((1 : Int) == 2) = false := rfl
    clear hb hr
    generalize placeM s.data.toList q = pl at *
    unfold termV
    go_wp2_with fail
    refine (wakes09 _ (HT.out.below (HB1.out.trans ((below_alloc _ _).mono HB1.out.size)))).mono ?_
    rintro e w2 ⟨rfl, hb⟩
    have HB2 : Hid (Below w.heap.size w w2) := Lib.hid (HB1.out.trans ((below_alloc w1 (.cells #[.int .i64 0, .int .i64 0, .int .i64 0, .int .i64 0, .slice none 0 0] 24)).mono HB1.out.size |>.trans (hb.mono (Nat.le_trans HB1.out.size (below_alloc _ _).size))))
    clear hb x0 x1 x2 x3 x4
    go_wp2
    go_ret
    exact ⟨rfl, HB2.out⟩
  | ok t q =>
    obtain ⟨k, ti, tj, tn, ks⟩ := t
    have hrt := readM_right (by have := HL.out; have := HLN.out; have : s.data.toList.length = s.size := by simp
                                omega) hr
    have g1 : rightT (.node k ti tj tn ks) 0 = true := hrt.1
    have g2 : decide (freeOf (.node k ti tj tn ks) ≤ (nm.length : Int)) = true := decide_eq_true hrt.2
    clear hrt
    go_wp2_with fail
    refine (read_ok s I J w HT.out (Nat.le_trans HL.out (by decide)) HN.out (Nat.le_trans HLN.out (by decide)) HIJ.out hr).mono ?_
    rintro e w1 ⟨ka, kc, rfl, hrep, h4, hb⟩
    have HREP := Lib.hid hrep
    have H4 := Lib.hid h4
    have HB1 : Hid (Below w.heap.size w w1) := Lib.hid hb
    have HX : Hid ((w1.alloc (.cells #[.int .i64 k, .int .i64 ti, .int .i64 tj, .int .i64 tn, .slice ka ks.length kc] 24)).heap[w1.heap.size]? = some (.cells #[.int .i64 k, .int .i64 ti, .int .i64 tj, .int .i64 tn, .slice ka ks.length kc] 24 (0, 0))) := Lib.hid (new_heap _ _ _)
    have HBX : Hid (Below w1.heap.size w1 (w1.alloc (.cells #[.int .i64 k, .int .i64 ti, .int .i64 tj, .int .i64 tn, .slice ka ks.length kc] 24))) := Lib.hid (below_alloc _ _)
    obtain ⟨x0, x1, x2, x3, x4⟩ := box_cells5 HX.out
    clear hb hr hrep h4
    unfold termV
    go_wp2_with fail
    refine (rright04_any k ti tj tn ks _ _ (HREP.out.kept HBX.out)).mono ?_
    rintro e w2 ⟨rfl, hb⟩
    have HB2 : Hid (Below (w1.alloc (.cells #[.int .i64 k, .int .i64 ti, .int .i64 tj, .int .i64 tn, .slice ka ks.length kc] 24)).heap.size (w1.alloc (.cells #[.int .i64 k, .int .i64 ti, .int .i64 tj, .int .i64 tn, .slice ka ks.length kc] 24)) w2) := Lib.hid hb
    have HX2 : Hid (w2.heap[w1.heap.size]? = some (.cells #[.int .i64 k, .int .i64 ti, .int .i64 tj, .int .i64 tn, .slice ka ks.length kc] 24 (0, 0))) := Lib.hid ((HB2.out.block _ (by simp)).trans HX.out)
    have HBX2 : Hid (Below w1.heap.size w1 w2) := Lib.hid (HBX.out.trans (HB2.out.mono HBX.out.size))
    clear hb x0 x1 x2 x3 x4
    obtain ⟨x0, x1, x2, x3, x4⟩ := box_cells5 HX2.out
    go_wp2_with fail
    refine (rFree04_any k ti tj tn ks _ _ (HREP.out.kept HBX2.out)).mono ?_
    rintro e w3 ⟨rfl, hb⟩
    have HBX3 : Hid (Below w1.heap.size w1 w3) := Lib.hid (HBX2.out.trans (hb.mono HBX2.out.size))
    clear hb x0 x1 x2 x3 x4
    go_wp2_with fail
    refine (wakes09 _ (HT.out.below (HB1.out.trans (HBX3.out.mono HB1.out.size)))).mono ?_
    rintro e w4 ⟨rfl, hb⟩
    have HBX4 : Hid (Below w1.heap.size w1 w4) := Lib.hid (HBX3.out.trans (hb.mono HBX3.out.size))
    clear hb
    go_wp2
    go_ret
    exact ⟨rfl, HB1.out.trans (HBX4.out.mono HB1.out.size)⟩
end Go.Proofs.YtefjgpahgffmfaaDoor
