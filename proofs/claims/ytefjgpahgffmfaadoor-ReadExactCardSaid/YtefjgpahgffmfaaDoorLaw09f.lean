/- Walk of transhiplaw09.ReadExact. -/
import Derived.Test.YtefjgpahgffmfaaDoorLaw09b
import Derived.Test.YtefjgpahgffmfaaDoorQx
namespace Go.Proofs.YtefjgpahgffmfaaDoor
open Go.RowKit

section
variable (s : ByteArray) {nv : Value} {nm : List (List UInt8)} (w : World)
set_option maxHeartbeats 1000000 in
set_option maxRecDepth 100000 in
theorem qread_arg (x y : Int) (hxy : x < 0 ∨ 1000 < x ∨ y < 0 ∨ 1000 < y) (_hx : In64 x) (_hy : In64 y) :
    Calls Tryd.prog 26 #[.string s, nv, .int .i64 x, .int .i64 y] w fun e w' => e = .returned (.tuple #[termV 0 0 0 0 (.slice none 0 0), .int .i64 1, .int .i64 0]) ∧ Below w.heap.size w w' := by
  have hres : (w.alloc (.cells #[.int .i64 0, .int .i64 0, .int .i64 0, .int .i64 0, .slice none 0 0] 24)).heap[w.heap.size]? = some (.cells zero5 24 (0, 0)) := new_heap _ _ _
  have HB := Lib.hid (below_alloc w (.cells #[.int .i64 0, .int .i64 0, .int .i64 0, .int .i64 0, .slice none 0 0] 24))
  obtain ⟨r0, r1, r2, r3, r4, g0, g1, g2, g3, g4⟩ := cells5 hres
  have hc : decide (x < 0) = true ∨ (decide (x < 0) = false ∧ decide ((1000 : Int) < x) = true) ∨ (decide (x < 0) = false ∧ decide ((1000 : Int) < x) = false ∧ decide (y < 0) = true) ∨ (decide (x < 0) = false ∧ decide ((1000 : Int) < x) = false ∧ decide (y < 0) = false ∧ decide ((1000 : Int) < y) = true) := by
    simp only [decide_eq_true_eq, decide_eq_false_iff_not]; omega
  clear hxy hres
  rcases hc with h1 | ⟨h1, h2⟩ | ⟨h1, h2, h3⟩ | ⟨h1, h2, h3, h4⟩
  all_goals
    go_enter Tryd.func26, Tryd.ntmps26
    go_wp2
    exact bodyPost_ret (v := .tuple #[termV 0 0 0 0 (.slice none 0 0), .int .i64 1, .int .i64 0]) (by simp [results, Tryd.results26, go_sem, r0, r1, r2, r3, r4, termV]) rfl ⟨rfl, HB.out⟩

/-- what either Read ends in: a term, an error, a place -/
def EitherOut (k ti tj tn : Int) (ks : List TT) (er p : Int) (w : World) (e : Ending) (w' : World) : Prop :=
  ∃ (a : Option Addr) (c : Nat), e = .returned (.tuple #[termV k ti tj tn (.slice a ks.length c), .int .i64 er, .int .i64 p]) ∧ RepT w' ks (.slice a ks.length c) ∧ Below w.heap.size w w'
theorem either_out {text : List UInt8} {r : RR TT} {k ti tj tn er p : Int} {ks : List TT} {q : Nat} (h : r = .ok (.node k ti tj tn ks) q ∧ er = 0 ∧ p = 0 ∨ r = .bad q ∧ k = 0 ∧ ti = 0 ∧ tj = 0 ∧ tn = 0 ∧ ks = [] ∧ er = 2 ∧ p = (placeM text q : Nat)) {w : World} {e : Ending} {w' : World} (hx : ReadOut w text r e w') :
    EitherOut k ti tj tn ks er p w e w' := by
  rcases h with ⟨rfl, rfl, rfl⟩ | ⟨rfl, rfl, rfl, rfl, rfl, rfl, rfl, rfl⟩
  · obtain ⟨a, l, c, he, hrep, h4, hb⟩ := hx
    obtain ⟨_, a', c', hv⟩ := hrep.form
    injection hv with h1 h2 h3
    subst h1 h2 h3
    exact ⟨_, _, he, hrep, hb⟩
  · exact ⟨none, 0, hx.1, .nil _ _, hx.2⟩
theorem either_read (hs : s.size ≤ 1099511627776) (hnl : nm.length ≤ 1099511627776) (i j : Int) (hi : In64 i) (hj : In64 j) : ∃ (k ti tj tn : Int) (ks : List TT) (er p : Int),
    (∀ (w : World), Tab w → Has w 1 nv nm.length (textRow nm) → Calls Tryd.prog 25 #[.string s, nv, .int .i64 i, .int .i64 j] w (EitherOut k ti tj tn ks er p w)) ∧
    (∀ (w : World), Has w 1 nv nm.length (textRow nm) → Calls Tryd.prog 26 #[.string s, nv, .int .i64 i, .int .i64 j] w (EitherOut k ti tj tn ks er p w)) := by
  by_cases hij : (0 ≤ i ∧ i ≤ 1000) ∧ (0 ≤ j ∧ j ≤ 1000)
  · obtain ⟨⟨i0, i1⟩, j0, j1⟩ := hij
    obtain ⟨I, rfl⟩ := Int.eq_ofNat_of_zero_le i0
    obtain ⟨J, rfl⟩ := Int.eq_ofNat_of_zero_le j0
    have hIJ : I ≤ 1000 ∧ J ≤ 1000 := ⟨by omega, by omega⟩
    cases hr : readM s.data.toList nm I J with
    | ok t q =>
      obtain ⟨k, ti, tj, tn, ks⟩ := t
      refine ⟨k, ti, tj, tn, ks, 0, 0, fun w ht hN => (read_any s I J w ht hs hN hnl hIJ).mono fun e w' h => either_out (.inl ⟨hr, rfl, rfl⟩) h, fun w hN => (qread_any s I J w hs hN hnl hIJ).mono fun e w' h => either_out (.inl ⟨hr, rfl, rfl⟩) h⟩
    | bad q =>
      refine ⟨0, 0, 0, 0, [], 2, (placeM s.data.toList q : Nat), fun w ht hN => (read_any s I J w ht hs hN hnl hIJ).mono fun e w' h => either_out (.inr ⟨hr, rfl, rfl, rfl, rfl, rfl, rfl, rfl⟩) h, fun w hN => (qread_any s I J w hs hN hnl hIJ).mono fun e w' h => either_out (.inr ⟨hr, rfl, rfl, rfl, rfl, rfl, rfl, rfl⟩) h⟩
  · refine ⟨0, 0, 0, 0, [], 1, 0, fun w ht hN => (read_arg s w i j (by omega) hi hj).mono fun e w' h => ⟨none, 0, h.1, .nil _ _, h.2⟩, fun w hN => (qread_arg s w i j (by omega) hi hj).mono fun e w' h => ⟨none, 0, h.1, .nil _ _, h.2⟩⟩
end

set_option maxHeartbeats 4000000 in
set_option maxRecDepth 100000 in
theorem readExact_walk (s : ByteArray) (nm : List (List UInt8)) (v : Value) (i j : Int) (w : World) (hN : Has w 1 v nm.length (textRow nm)) (hi : In64 i) (hj : In64 j) (ht : Tab w) :
    Calls Tryd.prog 6 #[.string s, v, .int .i64 i, .int .i64 j] w fun e w' => e = .returned (.bool true) ∧ Below w.heap.size w w' := by
  have HT := Lib.hid ht
  have HN := Lib.hid hN
  have HI := Lib.hid (And.intro hi hj)
  obtain ⟨a, c, rfl⟩ : ∃ a c, v = .slice a nm.length c := by
    rcases hN.2 with ⟨rfl, h0⟩ | ⟨bt, o, c, rfl, _⟩
    · exact ⟨none, 0, by rw [h0]⟩
    · exact ⟨_, _, rfl⟩
  clear ht hN hi hj
  rcases Bool.eq_false_or_eq_true (decide ((2000 : Int) < (s.size : Int))) with hl | hl
  · go_enter Tryd.func6, Tryd.ntmps6
    go_wp2
    go_ret
    exact ⟨rfl, Below.refl _ _⟩
  have HL : Hid (s.size ≤ 2000) := Lib.hid (by have := of_decide_eq_false hl; omega)
  go_enter Tryd.func6, Tryd.ntmps6
  go_wp2_with fail
  refine (greatN_any nm _ w HN.out).mono ?_
  rintro e _ ⟨rfl, rfl⟩
  cases hg : greatN nm
  case true =>
    clear hg
    go_wp2
    go_ret
    exact ⟨rfl, Below.refl _ _⟩
  have HLN : Hid (nm.length ≤ 60) := Lib.hid (by
    unfold greatN at hg
    simp only [Bool.or_eq_false_iff, decide_eq_false_iff_not] at hg
    omega)
  clear hg
  obtain ⟨k, ti, tj, tn, ks, er, p, h1, h2⟩ := either_read s (nv := .slice a nm.length c) (nm := nm) (Nat.le_trans HL.out (by decide)) (Nat.le_trans HLN.out (by decide)) i j HI.out.1 HI.out.2
  have H1 := Lib.hid h1
  have H2 := Lib.hid h2
  clear h1 h2
  go_wp2_with fail
  refine (H1.out w HT.out HN.out).mono ?_
  rintro e w1 ⟨ka, kc, rfl, hrep, hb⟩
  have HREP := Lib.hid hrep
  have HB1 : Hid (Below w.heap.size w w1) := Lib.hid hb
  have HX : Hid ((w1.alloc (.cells #[.int .i64 k, .int .i64 ti, .int .i64 tj, .int .i64 tn, .slice ka ks.length kc] 24)).heap[w1.heap.size]? = some (.cells #[.int .i64 k, .int .i64 ti, .int .i64 tj, .int .i64 tn, .slice ka ks.length kc] 24 (0, 0))) := Lib.hid (new_heap _ _ _)
  have HBX : Hid (Below w1.heap.size w1 (w1.alloc (.cells #[.int .i64 k, .int .i64 ti, .int .i64 tj, .int .i64 tn, .slice ka ks.length kc] 24))) := Lib.hid (below_alloc _ _)
  obtain ⟨x0, x1, x2, x3, x4⟩ := box_cells5 HX.out
  clear hb hrep
  unfold termV
  go_wp2_with fail
  refine (H2.out _ (HN.out.below (HB1.out.trans (HBX.out.mono HB1.out.size)))).mono ?_
  rintro e w2 ⟨ka2, kc2, rfl, hrep2, hb⟩
  have HB2 : Hid (Below w1.heap.size w1 w2) := Lib.hid (HBX.out.trans (hb.mono HBX.out.size))
  have HX2 : Hid (w2.heap[w1.heap.size]? = some (.cells #[.int .i64 k, .int .i64 ti, .int .i64 tj, .int .i64 tn, .slice ka ks.length kc] 24 (0, 0))) := Lib.hid ((hb.block _ (by simp)).trans HX.out)
  have HREP2 := Lib.hid hrep2
  have HY : Hid ((w2.alloc (.cells #[.int .i64 k, .int .i64 ti, .int .i64 tj, .int .i64 tn, .slice ka2 ks.length kc2] 24)).heap[w2.heap.size]? = some (.cells #[.int .i64 k, .int .i64 ti, .int .i64 tj, .int .i64 tn, .slice ka2 ks.length kc2] 24 (0, 0))) := Lib.hid (new_heap _ _ _)
  have HXY : Hid ((w2.alloc (.cells #[.int .i64 k, .int .i64 ti, .int .i64 tj, .int .i64 tn, .slice ka2 ks.length kc2] 24)).heap[w1.heap.size]? = some (.cells #[.int .i64 k, .int .i64 ti, .int .i64 tj, .int .i64 tn, .slice ka ks.length kc] 24 (0, 0))) := Lib.hid ((Lib.alloc_old _ _ _ (Array.getElem?_eq_some_iff.1 HX2.out).1).trans HX2.out)
  have HBY : Hid (Below w2.heap.size w2 (w2.alloc (.cells #[.int .i64 k, .int .i64 ti, .int .i64 tj, .int .i64 tn, .slice ka2 ks.length kc2] 24))) := Lib.hid (below_alloc _ _)
  clear hb hrep2 x0 x1 x2 x3 x4
  obtain ⟨x0, x1, x2, x3, x4⟩ := box_cells5 HXY.out
  obtain ⟨y0, y1, y2, y3, y4⟩ := box_cells5 HY.out
  unfold termV
  have hs1 : sameT (.node k ti tj tn ks) (.node k ti tj tn ks) = true := (sameT_iff _ _).2 rfl
  go_wp2_with fail
  refine (same_any k ti tj tn k ti tj tn ks ks _ _ _ (HREP.out.kept (HB2.out.trans (HBY.out.mono HB2.out.size))) (HREP2.out.kept HBY.out)).mono ?_
  rintro e w3 ⟨rfl, hb⟩
  have HB3 : Hid (Below w1.heap.size w1 w3) := Lib.hid ((HB2.out.trans (HBY.out.mono HB2.out.size)).trans (hb.mono (Nat.le_trans HB2.out.size HBY.out.size)))
  clear hb x0 x1 x2 x3 x4 y0 y1 y2 y3 y4
  rw [hs1]
  clear hs1
  go_wp2_with fail
  refine (wakes09 _ (HT.out.below (HB1.out.trans (HB3.out.mono HB1.out.size)))).mono ?_
  rintro e w4 ⟨rfl, hb⟩
  have HB4 : Hid (Below w1.heap.size w1 w4) := Lib.hid (HB3.out.trans (hb.mono HB3.out.size))
  clear hb
  go_wp2
  go_ret
  exact ⟨rfl, HB1.out.trans (HB4.out.mono HB1.out.size)⟩
end Go.Proofs.YtefjgpahgffmfaaDoor
