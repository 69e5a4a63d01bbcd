/- Walks of sig.At at whatever arguments, of transhiplaw17.wakes. -/
import Derived.Test.YtfklmcmoackepaaDoorSgB
import Derived.Test.YtfklmcmoackepaaDoorSgG
namespace Go.Proofs.YtfklmcmoackepaaDoor
open Go.RowKit

/-- arguments at which there is no symbol -/
def NoSym (n i j : Int) : Prop := n < 1 ∨ 21 < n ∨ i < 0 ∨ 1000 ≤ i ∨ j < 0 ∨ 1000 ≤ j
theorem no_ways {n i j : Int} (h : NoSym n i j) : decide (n < 1) = true ∨ (decide (n < 1) = false ∧ decide ((21 : Int) < n) = true) ∨ (decide (n < 1) = false ∧ decide ((21 : Int) < n) = false ∧ decide (i < 0) = true) ∨ (decide (n < 1) = false ∧ decide ((21 : Int) < n) = false ∧ decide (i < 0) = false ∧ decide ((1000 : Int) ≤ i) = true) ∨
    (decide (n < 1) = false ∧ decide ((21 : Int) < n) = false ∧ decide (i < 0) = false ∧ decide ((1000 : Int) ≤ i) = false ∧ decide (j < 0) = true) ∨ (decide (n < 1) = false ∧ decide ((21 : Int) < n) = false ∧ decide (i < 0) = false ∧ decide ((1000 : Int) ≤ i) = false ∧ decide (j < 0) = false ∧ decide ((1000 : Int) ≤ j) = true) := by
  unfold NoSym at h
  simp only [decide_eq_true_eq, decide_eq_false_iff_not]; omega

set_option maxHeartbeats 4000000 in
set_option maxRecDepth 100000 in
theorem at_none (n i j : Int) (h : NoSym n i j) (w : World) :
    Calls Tryd.prog 6 #[.int .i64 n, .int .i64 i, .int .i64 j] w fun e w' => e = .returned (.tuple #[.agg (symCells ⟨#[]⟩ nilV 0 0 0 0 nilV 0 0 0 0 nilV false), .bool false]) ∧ Below w.heap.size w w' := by
  have hw := no_ways h
  have HAT := Lib.hid (new_heap w (symCells ⟨#[]⟩ nilV 0 0 0 0 nilV 0 0 0 0 nilV false) 26)
  have HB := Lib.hid (below_alloc w (.cells (symCells ⟨#[]⟩ nilV 0 0 0 0 nilV 0 0 0 0 nilV false) 26))
  unfold symCells nilV at HAT HB
  clear h
  rcases hw with g1 | ⟨g1, g2⟩ | ⟨g1, g2, g3⟩ | ⟨g1, g2, g3, g4⟩ | ⟨g1, g2, g3, g4, g5⟩ | ⟨g1, g2, g3, g4, g5, g6⟩
  all_goals
    go_enter Tryd.func6, Tryd.ntmps6
    go_wp2
    obtain ⟨x0, x1, x2, x3, x4, x5, x6, x7, x8, x9, x10, x11, x12, _⟩ := cells13 HAT.out
    exact bodyPost_ret (v := .tuple #[.agg #[.string ⟨#[]⟩, .slice none 0 0, .int .i64 0, .int .i64 0, .int .i64 0, .int .i64 0, .slice none 0 0, .int .i64 0, .int .i64 0, .int .i64 0, .int .i64 0, .slice none 0 0, .bool false], .bool false]) (by simp [results, Tryd.results6, go_sem, x0, x1, x2, x3, x4, x5, x6, x7, x8, x9, x10, x11, x12]) rfl ⟨rfl, HB.out⟩

theorem lib_text {m : Nat} (hm : m < 21) : (funcVals Tryd.f16)[m]? = some (.string ⟨(lineText Tryd.f16 m).toArray⟩) := by
  rw [← lib_strings]
  simp [hm]

/-- what sig.At ends in, at whatever arguments: there is a symbol, or there is none -/
theorem at_any (n i j : Int) (hn : ¬ NoSym n i j) : ∃ (m I J : Nat) (s s0 : LineM), n = (m : Int) + 1 ∧ i = I ∧ j = J ∧ m < 21 ∧ I < 1000 ∧ J < 1000 ∧ lineM (lineText Tryd.f16 m) I J = some s ∧ lineM (lineText Tryd.f16 m) 999 999 = some s0 ∧ formL s s0 ∧ SymOK m s ∧
    ∀ w, Tab w → Calls Tryd.prog 6 #[.int .i64 n, .int .i64 i, .int .i64 j] w (AtOut w s) := by
  unfold NoSym at hn
  obtain ⟨m, rfl⟩ : ∃ m : Nat, n = (m : Int) + 1 := ⟨(n - 1).toNat, by omega⟩
  obtain ⟨I, rfl⟩ := Int.eq_ofNat_of_zero_le (a := i) (by omega)
  obtain ⟨J, rfl⟩ := Int.eq_ofNat_of_zero_le (a := j) (by omega)
  have hm : m < 21 := by omega
  obtain ⟨s, s0, h1, h2, h3, h4, h5⟩ := line_sym (lines_ok m hm) (i := I) (j := J) (by omega) (by omega)
  exact ⟨m, I, J, s, s0, rfl, rfl, rfl, hm, by omega, by omega, h1, h2, h3, h4, fun w ht => at_line m I J hm (by omega) (by omega) (lib_text hm) (Nat.le_trans h5 (by decide)) h1 w ht⟩

/-- the sample -/
theorem wake_line : (match lineM (lineText Tryd.f16 5) 2 0 with
    | some s => s.name == [104, 101, 116] && s.isDef && s.params.length == 4 && s.type.kd == 1 && s.type.ni == 3
    | none => false) = true := by decide +kernel
theorem wake_sym : ∃ s, lineM (lineText Tryd.f16 5) 2 0 = some s ∧ s.name = [104, 101, 116] ∧ s.isDef = true ∧ s.params.length = 4 ∧ s.type.kd = 1 ∧ s.type.ni = 3 := by
  have h := wake_line
  split at h
  · rename_i s hs
    simp only [Bool.and_eq_true, beq_iff_eq] at h
    exact ⟨s, hs, h.1.1.1.1, h.1.1.1.2, h.1.1.2, h.1.2, h.2⟩
  · cases h

set_option maxHeartbeats 4000000 in
set_option maxRecDepth 100000 in
theorem wakes17 (w : World) (ht : Tab w) :
    Calls Tryd.prog 10 #[] w fun e w' => e = .returned (.bool true) ∧ Below w.heap.size w w' := by
  have HT := Lib.hid ht
  obtain ⟨s, hs, n1, n2, n3, n4, n5⟩ := wake_sym
  have H5 := Lib.hid (at_line 5 2 0 (by decide) (by decide) (by decide) (lib_text (by decide)) (Nat.le_trans (line_sym (lines_ok 5 (by decide)) (i := 2) (j := 0) (by decide) (by decide)).choose_spec.choose_spec.2.2.2.2 (by decide)) hs w ht)
  have HN := Lib.hid (And.intro n1 (And.intro n2 (And.intro n3 (And.intro n4 n5))))
  clear ht hs n1 n2 n3 n4 n5
  go_enter Tryd.func10, Tryd.ntmps10
  go_wp2_with fail
  refine H5.out.mono ?_
  intro e w1 h1
  obtain ⟨pv, tv, bv, rfl, hp, _, _, hb1⟩ := h1
  obtain ⟨_, ap, cp, rfl⟩ := hp.form
  obtain ⟨_, at', ct, rfl⟩ := (‹RepT w1 s.type.kids tv›).form
  obtain ⟨_, ab, cb, rfl⟩ := (‹RepT w1 s.body.kids bv›).form
  have HB1 := Lib.hid hb1
  clear hb1 hp
  rw [HN.out.1, HN.out.2.1, HN.out.2.2.1, HN.out.2.2.2.1, HN.out.2.2.2.2]
  generalize s.type.nj = tj
  generalize s.type.nn = tn
  generalize s.body.kd = bk
  generalize s.body.ni = bi
  generalize s.body.nj = bj
  generalize s.body.nn = bn
  generalize s.type.kids.length = tl at *
  generalize s.body.kids.length = bl at *
  unfold symCells
  have HX1 := Lib.hid (new_heap w1 #[.string ⟨#[104, 101, 116]⟩, .slice ap 4 cp, .int .i64 1, .int .i64 3, .int .i64 tj, .int .i64 tn, .slice at' tl ct, .int .i64 bk, .int .i64 bi, .int .i64 bj, .int .i64 bn, .slice ab bl cb, .bool true] 26)
  have HBX := Lib.hid (below_alloc w1 (.cells #[.string ⟨#[104, 101, 116]⟩, .slice ap 4 cp, .int .i64 1, .int .i64 3, .int .i64 tj, .int .i64 tn, .slice at' tl ct, .int .i64 bk, .int .i64 bi, .int .i64 bj, .int .i64 bn, .slice ab bl cb, .bool true] 26))
  go_wp2_with fail
  refine (at_none 22 0 0 (.inr (.inl (by decide))) _).mono ?_
  rintro e w2 ⟨rfl, hb2⟩
  have HB2 := Lib.hid (HBX.out.trans (hb2.mono HBX.out.size))
  have hx2 := (hb2.block _ (by simp)).trans HX1.out
  have HX3 : Hid ((w2.alloc (.cells #[.string ⟨#[]⟩, .slice none 0 0, .int .i64 0, .int .i64 0, .int .i64 0, .int .i64 0, .slice none 0 0, .int .i64 0, .int .i64 0, .int .i64 0, .int .i64 0, .slice none 0 0, .bool false] 26)).heap[w1.heap.size]? = some (.cells #[.string ⟨#[104, 101, 116]⟩, .slice ap 4 cp, .int .i64 1, .int .i64 3, .int .i64 tj, .int .i64 tn, .slice at' tl ct, .int .i64 bk, .int .i64 bi, .int .i64 bj, .int .i64 bn, .slice ab bl cb, .bool true] 26 (0, 0))) := Lib.hid ((Lib.alloc_old _ _ _ (Array.getElem?_eq_some_iff.1 hx2).1).trans hx2)
  have HB3 : Hid (Below w.heap.size w (w2.alloc (.cells #[.string ⟨#[]⟩, .slice none 0 0, .int .i64 0, .int .i64 0, .int .i64 0, .int .i64 0, .slice none 0 0, .int .i64 0, .int .i64 0, .int .i64 0, .int .i64 0, .slice none 0 0, .bool false] 26))) := Lib.hid (HB1.out.trans ((HB2.out.trans ((below_alloc _ _).mono HB2.out.size)).mono HB1.out.size))
  clear hb2 hx2
  obtain ⟨s0, s1, s2, s3, s4, s5, s6, s7, s8, s9, s10, s11, s12, _⟩ := cells13 HX3.out
  unfold symCells nilV
  go_wp2
  go_ret
  exact ⟨rfl, HB3.out⟩
end Go.Proofs.YtfklmcmoackepaaDoor
