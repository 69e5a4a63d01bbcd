/- Walk of transhiplaw17.SigExact. -/
import Derived.Test.YtfklmcmoackepaaDoorSgN
import Derived.Test.YtfklmcmoackepaaDoorSgH
namespace Go.Proofs.YtfklmcmoackepaaDoor
open Go.RowKit

theorem same_at {w : World} {t : TT} {v v' : Value} (h : RepT w t.kids v) (h' : RepT w t.kids v') : Calls Tryd.prog 9 #[termV t.kd t.ni t.nj t.nn v, termV t.kd t.ni t.nj t.nn v'] w fun e w' => e = .returned (.bool true) ∧ Below w.heap.size w w' := by
  have := same_any t.kd t.ni t.nj t.nn t.kd t.ni t.nj t.nn t.kids t.kids v v' w h h'
  rw [(sameT_iff _ _).2 rfl] at this
  exact this
theorem terms_at {w : World} {ts : List TT} {v v' : Value} (h : RepT w ts v) (h' : RepT w ts v') : Calls Tryd.prog 8 #[v, v'] w fun e w' => e = .returned (.bool true) ∧ Below w.heap.size w w' := by
  have := terms_any (SizeOf.sizeOf ts + 1) (same_all _) ts ts v v' w (fun k hk => by have := List.sizeOf_lt_of_mem hk; omega) h h'
  rw [(sameTs_iff _ _).2 rfl] at this
  exact this
/-- what either At ends in -/
def AtFin (w : World) (s : LineM) (ok : Bool) (e : Ending) (w' : World) : Prop :=
  ∃ pv tv bv : Value, e = .returned (.tuple #[.agg (symCells ⟨s.name.toArray⟩ pv s.type.kd s.type.ni s.type.nj s.type.nn tv s.body.kd s.body.ni s.body.nj s.body.nn bv s.isDef), .bool ok]) ∧ RepT w' s.params pv ∧ RepT w' s.type.kids tv ∧ RepT w' s.body.kids bv ∧ Below w.heap.size w w'

set_option maxHeartbeats 4000000 in
set_option maxRecDepth 100000 in
theorem rat_none (n i j : Int) (h : NoSym n i j) (w : World) :
    Calls Tryd.prog 7 #[.int .i64 n, .int .i64 i, .int .i64 j] w fun e w' => e = .returned (.tuple #[.agg (symCells ⟨#[]⟩ nilV 0 0 0 0 nilV 0 0 0 0 nilV false), .bool false]) ∧ Below w.heap.size w w' := by
  have hw := no_ways h
  have hx : ∀ vs : Array Value, ((w.alloc (.cells #[.string ⟨#[]⟩, .slice none 0 0, .int .i64 0, .int .i64 0, .int .i64 0, .int .i64 0, .slice none 0 0, .int .i64 0, .int .i64 0, .int .i64 0, .int .i64 0, .slice none 0 0, .bool false] 29)).alloc (.cells vs 9)).heap[w.heap.size]? = some (.cells #[.string ⟨#[]⟩, .slice none 0 0, .int .i64 0, .int .i64 0, .int .i64 0, .int .i64 0, .slice none 0 0, .int .i64 0, .int .i64 0, .int .i64 0, .int .i64 0, .slice none 0 0, .bool false] 29 (0, 0)) := fun vs => (Lib.alloc_old _ _ _ (by simp)).trans (new_heap _ _ _)
  have HX := Lib.hid hx
  have HB : Hid (∀ vs : Array Value, Below w.heap.size w ((w.alloc (.cells #[.string ⟨#[]⟩, .slice none 0 0, .int .i64 0, .int .i64 0, .int .i64 0, .int .i64 0, .slice none 0 0, .int .i64 0, .int .i64 0, .int .i64 0, .int .i64 0, .slice none 0 0, .bool false] 29)).alloc (.cells vs 9))) := Lib.hid (fun vs => (below_alloc _ _).trans ((below_alloc _ _).mono (by simp)))
  clear h hx
  rcases hw with g1 | ⟨g1, g2⟩ | ⟨g1, g2, g3⟩ | ⟨g1, g2, g3, g4⟩ | ⟨g1, g2, g3, g4, g5⟩ | ⟨g1, g2, g3, g4, g5, g6⟩
  all_goals
    go_enter Tryd.func7, Tryd.ntmps7
    go_wp2_with fail
    refine (library_any _).mono ?_
    rintro e _ ⟨rfl, rfl⟩
    have HX1 := Lib.hid (HX.out (funcVals Tryd.f16).toArray)
    have HB1 := Lib.hid (HB.out (funcVals Tryd.f16).toArray)
    generalize (w.alloc (.cells #[.string ⟨#[]⟩, .slice none 0 0, .int .i64 0, .int .i64 0, .int .i64 0, .int .i64 0, .slice none 0 0, .int .i64 0, .int .i64 0, .int .i64 0, .int .i64 0, .slice none 0 0, .bool false] 29)).alloc (.cells (funcVals Tryd.f16).toArray 9) = W0 at *
    obtain ⟨r0, r1, r2, r3, r4, r5, r6, r7, r8, r9, r10, r11, r12, p0, p1, p2, p3, p4, p5, p6, p7, p8, p9, p10, p11, p12⟩ := cells13 HX1.out
    go_wp2
    have HAT := set13_at HX1.out (.string ⟨#[]⟩) (.slice none 0 0) (.int .i64 0) (.int .i64 0) (.int .i64 0) (.int .i64 0) (.slice none 0 0) (.int .i64 0) (.int .i64 0) (.int .i64 0) (.int .i64 0) (.slice none 0 0) (.bool false)
    have HBW := HB1.out.trans (below_of_grown (set13_grown W0 w.heap.size (.string ⟨#[]⟩) (.slice none 0 0) (.int .i64 0) (.int .i64 0) (.int .i64 0) (.int .i64 0) (.slice none 0 0) (.int .i64 0) (.int .i64 0) (.int .i64 0) (.int .i64 0) (.slice none 0 0) (.bool false)) (Nat.le_refl _) HB1.out.size)
    unfold set13 at HAT HBW
    obtain ⟨x0, x1, x2, x3, x4, x5, x6, x7, x8, x9, x10, x11, x12, _⟩ := cells13 HAT
    exact bodyPost_ret (v := .tuple #[.agg #[.string ⟨#[]⟩, .slice none 0 0, .int .i64 0, .int .i64 0, .int .i64 0, .int .i64 0, .slice none 0 0, .int .i64 0, .int .i64 0, .int .i64 0, .int .i64 0, .slice none 0 0, .bool false], .bool false]) (by simp [results, Tryd.results7, go_sem, x0, x1, x2, x3, x4, x5, x6, x7, x8, x9, x10, x11, x12]) rfl ⟨rfl, HBW⟩

set_option maxHeartbeats 8000000 in
set_option maxRecDepth 100000 in
theorem sigExact_fin (n i j : Int) (s : LineM) (ok : Bool) (w : World) (ht : Tab w) (hat : ∀ w, Tab w → Calls Tryd.prog 6 #[.int .i64 n, .int .i64 i, .int .i64 j] w (AtFin w s ok)) (hrat : ∀ w, Calls Tryd.prog 7 #[.int .i64 n, .int .i64 i, .int .i64 j] w (AtFin w s ok)) :
    Calls Tryd.prog 3 #[.int .i64 n, .int .i64 i, .int .i64 j] w fun e w' => e = .returned (.bool true) ∧ Below w.heap.size w w' := by
  have HT := Lib.hid ht
  have HA1 := Lib.hid hat
  have HA2 := Lib.hid hrat
  clear ht hat hrat
  go_enter Tryd.func3, Tryd.ntmps3
  go_wp2_with fail
  refine (HA1.out w HT.out).mono ?_
  intro e w1 h1
  obtain ⟨pv, tv, bv, rfl, hp, hty, hbd, hb1⟩ := h1
  obtain ⟨_, asp, csp, rfl⟩ := hp.form
  obtain ⟨_, ast, cst, rfl⟩ := hty.form
  obtain ⟨_, asb, csb, rfl⟩ := hbd.form
  have HB1 := Lib.hid hb1
  have HR1 := Lib.hid (And.intro hp (And.intro hty hbd))
  have HX1 := Lib.hid (new_heap w1 #[.string ⟨s.name.toArray⟩, .slice asp s.params.length csp, .int .i64 s.type.kd, .int .i64 s.type.ni, .int .i64 s.type.nj, .int .i64 s.type.nn, .slice ast s.type.kids.length cst, .int .i64 s.body.kd, .int .i64 s.body.ni, .int .i64 s.body.nj, .int .i64 s.body.nn, .slice asb s.body.kids.length csb, .bool s.isDef] 26)
  have HBX := Lib.hid (below_alloc w1 (.cells #[.string ⟨s.name.toArray⟩, .slice asp s.params.length csp, .int .i64 s.type.kd, .int .i64 s.type.ni, .int .i64 s.type.nj, .int .i64 s.type.nn, .slice ast s.type.kids.length cst, .int .i64 s.body.kd, .int .i64 s.body.ni, .int .i64 s.body.nj, .int .i64 s.body.nn, .slice asb s.body.kids.length csb, .bool s.isDef] 26))
  clear hb1 hp hty hbd
  unfold symCells
  go_wp2_with fail
  refine (HA2.out _).mono ?_
  intro e w2 h2
  obtain ⟨pv, tv, bv, rfl, hp, hty, hbd, hb2⟩ := h2
  obtain ⟨_, aup, cup, rfl⟩ := hp.form
  obtain ⟨_, aut, cut, rfl⟩ := hty.form
  obtain ⟨_, aub, cub, rfl⟩ := hbd.form
  have HB2 := Lib.hid (HBX.out.trans (hb2.mono HBX.out.size))
  have hxa := (hb2.block w1.heap.size (by simp)).trans HX1.out
  have HXA : Hid ((w2.alloc (.cells #[.string ⟨s.name.toArray⟩, .slice aup s.params.length cup, .int .i64 s.type.kd, .int .i64 s.type.ni, .int .i64 s.type.nj, .int .i64 s.type.nn, .slice aut s.type.kids.length cut, .int .i64 s.body.kd, .int .i64 s.body.ni, .int .i64 s.body.nj, .int .i64 s.body.nn, .slice aub s.body.kids.length cub, .bool s.isDef] 29)).heap[w1.heap.size]? = some (.cells #[.string ⟨s.name.toArray⟩, .slice asp s.params.length csp, .int .i64 s.type.kd, .int .i64 s.type.ni, .int .i64 s.type.nj, .int .i64 s.type.nn, .slice ast s.type.kids.length cst, .int .i64 s.body.kd, .int .i64 s.body.ni, .int .i64 s.body.nj, .int .i64 s.body.nn, .slice asb s.body.kids.length csb, .bool s.isDef] 26 (0, 0))) := Lib.hid ((Lib.alloc_old _ _ _ (Array.getElem?_eq_some_iff.1 hxa).1).trans hxa)
  have HXB := Lib.hid (new_heap w2 #[.string ⟨s.name.toArray⟩, .slice aup s.params.length cup, .int .i64 s.type.kd, .int .i64 s.type.ni, .int .i64 s.type.nj, .int .i64 s.type.nn, .slice aut s.type.kids.length cut, .int .i64 s.body.kd, .int .i64 s.body.ni, .int .i64 s.body.nj, .int .i64 s.body.nn, .slice aub s.body.kids.length cub, .bool s.isDef] 29)
  have HBY := Lib.hid (below_alloc w2 (.cells #[.string ⟨s.name.toArray⟩, .slice aup s.params.length cup, .int .i64 s.type.kd, .int .i64 s.type.ni, .int .i64 s.type.nj, .int .i64 s.type.nn, .slice aut s.type.kids.length cut, .int .i64 s.body.kd, .int .i64 s.body.ni, .int .i64 s.body.nj, .int .i64 s.body.nn, .slice aub s.body.kids.length cub, .bool s.isDef] 29))
  have HZ : Hid ((w2.alloc (.cells #[.string ⟨s.name.toArray⟩, .slice aup s.params.length cup, .int .i64 s.type.kd, .int .i64 s.type.ni, .int .i64 s.type.nj, .int .i64 s.type.nn, .slice aut s.type.kids.length cut, .int .i64 s.body.kd, .int .i64 s.body.ni, .int .i64 s.body.nj, .int .i64 s.body.nn, .slice aub s.body.kids.length cub, .bool s.isDef] 29)).heap.size = w2.heap.size + 1 ∧ w1.heap.size < w2.heap.size) := Lib.hid ⟨by simp, (Array.getElem?_eq_some_iff.1 hxa).1⟩
  have HR2 := Lib.hid (And.intro (hp.kept HBY.out) (And.intro (hty.kept HBY.out) (hbd.kept HBY.out)))
  have HR1b := Lib.hid (And.intro (HR1.out.1.kept (HB2.out.trans (HBY.out.mono HB2.out.size))) (And.intro (HR1.out.2.1.kept (HB2.out.trans (HBY.out.mono HB2.out.size))) (HR1.out.2.2.kept (HB2.out.trans (HBY.out.mono HB2.out.size)))))
  have HB3 : Hid (Below w.heap.size w (w2.alloc (.cells #[.string ⟨s.name.toArray⟩, .slice aup s.params.length cup, .int .i64 s.type.kd, .int .i64 s.type.ni, .int .i64 s.type.nj, .int .i64 s.type.nn, .slice aut s.type.kids.length cut, .int .i64 s.body.kd, .int .i64 s.body.ni, .int .i64 s.body.nj, .int .i64 s.body.nn, .slice aub s.body.kids.length cub, .bool s.isDef] 29))) := Lib.hid (HB1.out.trans ((HB2.out.trans (HBY.out.mono HB2.out.size)).mono HB1.out.size))
  clear hb2 hp hty hbd hxa
  unfold symCells
  obtain ⟨x0, x1, x2, x3, x4, x5, x6, x7, x8, x9, x10, x11, x12, _⟩ := cells13 HXA.out
  obtain ⟨y0, y1, y2, y3, y4, y5, y6, y7, y8, y9, y10, y11, y12, _⟩ := cells13 HXB.out
  have hok : (ok == ok) = true := by simp
  go_wp2_with fail
  clear x0 x1 x2 x3 x4 x5 x6 x7 x8 x9 x10 x11 x12 y0 y1 y2 y3 y4 y5 y6 y7 y8 y9 y10 y11 y12
  refine (terms_at HR1b.out.1 HR2.out.1).mono ?_
  rintro e w10 ⟨rfl, hb10⟩
  have HBa := Lib.hid hb10
  have HXAa := Lib.hid ((hb10.block _ (by have := HZ.out; omega)).trans HXA.out)
  have HXCa := Lib.hid ((hb10.block _ (by have := HZ.out; omega)).trans HXB.out)
  clear hb10
  obtain ⟨x0, x1, x2, x3, x4, x5, x6, x7, x8, x9, x10, x11, x12, _⟩ := cells13 HXAa.out
  obtain ⟨y0, y1, y2, y3, y4, y5, y6, y7, y8, y9, y10, y11, y12, _⟩ := cells13 HXCa.out
  go_wp2_with fail
  clear x0 x1 x2 x3 x4 x5 x6 x7 x8 x9 x10 x11 x12 y0 y1 y2 y3 y4 y5 y6 y7 y8 y9 y10 y11 y12
  refine (same_at (HR1b.out.2.1.kept HBa.out) (HR2.out.2.1.kept HBa.out)).mono ?_
  rintro e w11 ⟨rfl, hb11⟩
  have HBb := Lib.hid (HBa.out.trans (hb11.mono HBa.out.size))
  have HXAb := Lib.hid ((HBb.out.block _ (by have := HZ.out; omega)).trans HXA.out)
  have HXCb := Lib.hid ((HBb.out.block _ (by have := HZ.out; omega)).trans HXB.out)
  clear hb11
  obtain ⟨x0, x1, x2, x3, x4, x5, x6, x7, x8, x9, x10, x11, x12, _⟩ := cells13 HXAb.out
  obtain ⟨y0, y1, y2, y3, y4, y5, y6, y7, y8, y9, y10, y11, y12, _⟩ := cells13 HXCb.out
  go_wp2_with fail
  clear x0 x1 x2 x3 x4 x5 x6 x7 x8 x9 x10 x11 x12 y0 y1 y2 y3 y4 y5 y6 y7 y8 y9 y10 y11 y12
  refine (same_at (HR1b.out.2.2.kept HBb.out) (HR2.out.2.2.kept HBb.out)).mono ?_
  rintro e w12 ⟨rfl, hb12⟩
  have HBc := Lib.hid (HBb.out.trans (hb12.mono HBb.out.size))
  clear hb12
  have HBd : Hid (Below w.heap.size w w12) := Lib.hid (HB3.out.trans (HBc.out.mono HB3.out.size))
  go_wp2_with fail
  refine (wakes17 _ (HT.out.below HBd.out)).mono ?_
  rintro e w13 ⟨rfl, hb13⟩
  have HBe : Hid (Below w.heap.size w w13) := Lib.hid (HBd.out.trans (hb13.mono HBd.out.size))
  clear hb13
  go_wp2
  go_ret
  exact ⟨rfl, HBe.out⟩

theorem sigExact_walk (n i j : Int) (w : World) (ht : Tab w) :
    Calls Tryd.prog 3 #[.int .i64 n, .int .i64 i, .int .i64 j] w fun e w' => e = .returned (.bool true) ∧ Below w.heap.size w w' := by
  rcases Classical.em (NoSym n i j) with hn | hn
  · exact sigExact_fin n i j ⟨[], [], zeroT, zeroT, false⟩ false w ht (fun w _ => (at_none n i j hn w).mono fun e w' h => ⟨nilV, nilV, nilV, h.1, .nil _ _, .nil _ _, .nil _ _, h.2⟩) (fun w => (rat_none n i j hn w).mono fun e w' h => ⟨nilV, nilV, nilV, h.1, .nil _ _, .nil _ _, .nil _ _, h.2⟩)
  · obtain ⟨m, I, J, s, s0, rfl, rfl, rfl, hm, hI, hJ, h1, _, _, hok, hat⟩ := at_any n i j hn
    obtain ⟨_, _, _, _, _, _, hsz⟩ := line_sym (lines_ok m hm) hI hJ
    exact sigExact_fin _ _ _ s true w ht (fun w hw => hat w hw) (fun w => rat_line m I J hm hI hJ (lib_text hm) (Nat.le_trans hsz (by decide)) h1 hok w)
end Go.Proofs.YtfklmcmoackepaaDoor
