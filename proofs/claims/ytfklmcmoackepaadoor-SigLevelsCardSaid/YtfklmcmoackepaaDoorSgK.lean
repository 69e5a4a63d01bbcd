/- Walk of transhiplaw17.SigLevels. -/
import Derived.Test.YtfklmcmoackepaaDoorSgJ
import Derived.Test.YtfklmcmoackepaaDoorSgI
namespace Go.Proofs.YtfklmcmoackepaaDoor
open Go.RowKit

/-- what sig.At ends in, at whatever arguments -/
def AtEnd (w : World) (e : Ending) (w' : World) : Prop :=
  ∃ (nm : ByteArray) (ap : Option Addr) (lp cp : Nat) (tk ti tj tn : Int) (at' : Option Addr) (lt ct : Nat) (bk bi bj bn : Int) (ab : Option Addr) (lb cb : Nat) (d ok : Bool), e = .returned (.tuple #[.agg #[.string nm, .slice ap lp cp, .int .i64 tk, .int .i64 ti, .int .i64 tj, .int .i64 tn, .slice at' lt ct, .int .i64 bk, .int .i64 bi, .int .i64 bj, .int .i64 bn, .slice ab lb cb, .bool d], .bool ok]) ∧ Below w.heap.size w w'
theorem at_end (n i j : Int) (w : World) (ht : Tab w) : Calls Tryd.prog 6 #[.int .i64 n, .int .i64 i, .int .i64 j] w (AtEnd w) := by
  rcases Classical.em (NoSym n i j) with hn | hn
  · exact (at_none n i j hn w).mono fun e w' ⟨he, hb⟩ => ⟨⟨#[]⟩, none, 0, 0, 0, 0, 0, 0, none, 0, 0, 0, 0, 0, 0, none, 0, 0, false, false, he, hb⟩
  · obtain ⟨m, I, J, s, s0, rfl, rfl, rfl, hm, _, _, _, _, _, hok, hat⟩ := at_any n i j hn
    refine (hat w ht).mono fun e w' h => ?_
    obtain ⟨pv, tv, bv, he, hp, hty, hbd, hb⟩ := h
    obtain ⟨_, ap, cp, rfl⟩ := hp.form
    obtain ⟨_, at', ct, rfl⟩ := hty.form
    obtain ⟨_, ab, cb, rfl⟩ := hbd.form
    exact ⟨_, ap, _, cp, _, _, _, _, at', _, ct, _, _, _, _, ab, _, cb, _, true, he, hb⟩
theorem form_is {w : World} {t t' : TT} {v v' : Value} (h : RepT w t.kids v) (h' : RepT w t'.kids v') (hf : formT t t' = true) : Calls Tryd.prog 11 #[termV t.kd t.ni t.nj t.nn v, termV t'.kd t'.ni t'.nj t'.nn v'] w fun e w' => e = .returned (.bool true) ∧ Below w.heap.size w w' :=
  law_form t.kd t.ni t.nj t.nn t'.kd t'.ni t'.nj t'.nn t.kids t'.kids v v' w h h' (by rw [← TT.eta, ← TT.eta]; exact hf)
theorem same_is {w : World} {t : TT} {v v' : Value} (h : RepT w t.kids v) (h' : RepT w t.kids v') : Calls Tryd.prog 9 #[termV t.kd t.ni t.nj t.nn v, termV t.kd t.ni t.nj t.nn v'] w fun e w' => e = .returned (.bool true) ∧ Below w.heap.size w w' := by
  have := same_any t.kd t.ni t.nj t.nn t.kd t.ni t.nj t.nn t.kids t.kids v v' w h h'
  rw [(sameT_iff _ _).2 rfl] at this
  exact this
theorem terms_is {w : World} {ts : List TT} {v v' : Value} (h : RepT w ts v) (h' : RepT w ts v') : Calls Tryd.prog 8 #[v, v'] w fun e w' => e = .returned (.bool true) ∧ Below w.heap.size w w' := by
  have := terms_any (SizeOf.sizeOf ts + 1) (same_all _) ts ts v v' w (fun k hk => by have := List.sizeOf_lt_of_mem hk; omega) h h'
  rw [(sameTs_iff _ _).2 rfl] at this
  exact this

set_option maxHeartbeats 8000000 in
set_option maxRecDepth 100000 in
theorem sigLevels_one (n i j k l : Int) (hn : NoSym n i j) (w : World) (ht : Tab w) :
    Calls Tryd.prog 4 #[.int .i64 n, .int .i64 i, .int .i64 j, .int .i64 k, .int .i64 l] w fun e w' => e = .returned (.bool true) ∧ Below w.heap.size w w' := by
  have HT := Lib.hid ht
  have HN := Lib.hid hn
  clear ht hn
  go_enter Tryd.func4, Tryd.ntmps4
  go_wp2_with fail
  refine (at_none n i j HN.out w).mono ?_
  rintro e w1 ⟨rfl, hb1⟩
  have HB2 : Hid (Below w.heap.size w (w1.alloc (.cells #[.string ⟨#[]⟩, .slice none 0 0, .int .i64 0, .int .i64 0, .int .i64 0, .int .i64 0, .slice none 0 0, .int .i64 0, .int .i64 0, .int .i64 0, .int .i64 0, .slice none 0 0, .bool false] 26))) := Lib.hid (hb1.trans ((below_alloc _ _).mono hb1.size))
  clear hb1
  unfold symCells nilV
  go_wp2_with fail
  refine (at_end n k l _ (HT.out.below HB2.out)).mono ?_
  intro e w2 h2
  obtain ⟨nm, ap, lp, cp, tk, ti, tj, tn, at', lt, ct, bk, bi, bj, bn, ab, lb, cb, d, ok, rfl, hb2⟩ := h2
  have HB3 : Hid (Below w.heap.size w (w2.alloc (.cells #[.string nm, .slice ap lp cp, .int .i64 tk, .int .i64 ti, .int .i64 tj, .int .i64 tn, .slice at' lt ct, .int .i64 bk, .int .i64 bi, .int .i64 bj, .int .i64 bn, .slice ab lb cb, .bool d] 26))) := Lib.hid ((HB2.out.trans (hb2.mono HB2.out.size)).trans ((below_alloc _ _).mono (Nat.le_trans HB2.out.size hb2.size)))
  clear hb2
  go_wp2_with fail
  refine (wakes17 _ (HT.out.below HB3.out)).mono ?_
  rintro e w3 ⟨rfl, hb3⟩
  have HB4 : Hid (Below w.heap.size w w3) := Lib.hid (HB3.out.trans (hb3.mono HB3.out.size))
  clear hb3
  go_wp2
  go_ret
  exact ⟨rfl, HB4.out⟩

set_option maxHeartbeats 8000000 in
set_option maxRecDepth 100000 in
theorem sigLevels_two (n i j k l : Int) (hn : ¬ NoSym n i j) (hn2 : NoSym n k l) (w : World) (ht : Tab w) :
    Calls Tryd.prog 4 #[.int .i64 n, .int .i64 i, .int .i64 j, .int .i64 k, .int .i64 l] w fun e w' => e = .returned (.bool true) ∧ Below w.heap.size w w' := by
  obtain ⟨m, I, J, s, s0, rfl, rfl, rfl, -, -, -, -, -, -, -, hat⟩ := at_any n i j hn
  have HT := Lib.hid ht
  have HN := Lib.hid hn2
  have HAT := Lib.hid (hat w ht)
  clear ht hn hn2 hat
  generalize (m : Int) + 1 = n at *
  generalize (I : Int) = i at *
  generalize (J : Int) = j at *
  go_enter Tryd.func4, Tryd.ntmps4
  go_wp2_with fail
  refine HAT.out.mono ?_
  intro e w1 h1
  obtain ⟨pv, tv, bv, rfl, hp, hty, hbd, hb1⟩ := h1
  obtain ⟨_, asp, csp, rfl⟩ := hp.form
  obtain ⟨_, ast, cst, rfl⟩ := hty.form
  obtain ⟨_, asb, csb, rfl⟩ := hbd.form
  have HB2 : Hid (Below w.heap.size w (w1.alloc (.cells #[.string ⟨s.name.toArray⟩, .slice asp s.params.length csp, .int .i64 s.type.kd, .int .i64 s.type.ni, .int .i64 s.type.nj, .int .i64 s.type.nn, .slice ast s.type.kids.length cst, .int .i64 s.body.kd, .int .i64 s.body.ni, .int .i64 s.body.nj, .int .i64 s.body.nn, .slice asb s.body.kids.length csb, .bool s.isDef] 26))) := Lib.hid (hb1.trans ((below_alloc _ _).mono hb1.size))
  clear hb1 hp hty hbd
  unfold symCells
  go_wp2_with fail
  refine (at_none n k l HN.out _).mono ?_
  rintro e w2 ⟨rfl, hb2⟩
  have HB3 : Hid (Below w.heap.size w (w2.alloc (.cells #[.string ⟨#[]⟩, .slice none 0 0, .int .i64 0, .int .i64 0, .int .i64 0, .int .i64 0, .slice none 0 0, .int .i64 0, .int .i64 0, .int .i64 0, .int .i64 0, .slice none 0 0, .bool false] 26))) := Lib.hid ((HB2.out.trans (hb2.mono HB2.out.size)).trans ((below_alloc _ _).mono (Nat.le_trans HB2.out.size hb2.size)))
  clear hb2
  unfold symCells nilV
  go_wp2_with fail
  refine (wakes17 _ (HT.out.below HB3.out)).mono ?_
  rintro e w3 ⟨rfl, hb3⟩
  have HB4 : Hid (Below w.heap.size w w3) := Lib.hid (HB3.out.trans (hb3.mono HB3.out.size))
  clear hb3
  go_wp2
  go_ret
  exact ⟨rfl, HB4.out⟩

/-- does a symbol ask for no level j? -/
def oneB (m : Nat) : Bool := m != 1 && (decide (m < 11) || decide (18 < m))
set_option maxHeartbeats 16000000 in
set_option maxRecDepth 100000 in
theorem sigLevels_sym (m : Nat) (i j k l : Int) (hm : m < 21) {s u z : LineM} (hfp : formTs s.params u.params = true) (hft : formT s.type u.type = true) (hfb : formT s.body u.body = true) (hone : oneB m = true → z = s) (w : World) (ht : Tab w)
    (hat1 : ∀ w, Tab w → Calls Tryd.prog 6 #[.int .i64 ((m : Int) + 1), .int .i64 i, .int .i64 j] w (AtOut w s)) (hat2 : ∀ w, Tab w → Calls Tryd.prog 6 #[.int .i64 ((m : Int) + 1), .int .i64 k, .int .i64 l] w (AtOut w u))
    (hat3 : ∀ w, Tab w → Calls Tryd.prog 6 #[.int .i64 ((m : Int) + 1), .int .i64 i, .int .i64 l] w (AtOut w z)) :
    Calls Tryd.prog 4 #[.int .i64 ((m : Int) + 1), .int .i64 i, .int .i64 j, .int .i64 k, .int .i64 l] w fun e w' => e = .returned (.bool true) ∧ Below w.heap.size w w' := by
  have HT := Lib.hid ht
  have HA1 := Lib.hid hat1
  have HA2 := Lib.hid hat2
  have HA3 := Lib.hid hat3
  have HF := Lib.hid (And.intro hfp (And.intro hft hfb))
  have HONE := Lib.hid hone
  have HL := Lib.hid (form_length hfp)
  have HM := Lib.hid hm
  clear ht hat1 hat2 hat3 hfp hft hfb hone hm
  go_enter Tryd.func4, Tryd.ntmps4
  go_wp2_with fail
  refine (HA1.out w HT.out).mono ?_
  intro e w1 h1
  obtain ⟨pv, tv, bv, rfl, hp, hty, hbd, hb1⟩ := h1
  obtain ⟨hpl, asp, csp, rfl⟩ := hp.form
  obtain ⟨_, ast, cst, rfl⟩ := hty.form
  obtain ⟨_, asb, csb, rfl⟩ := hbd.form
  unfold maxLen at hpl
  have HB1 := Lib.hid hb1
  have HR1 := Lib.hid (And.intro hp (And.intro hty hbd))
  have HX1 := Lib.hid (new_heap w1 #[.string ⟨s.name.toArray⟩, .slice asp s.params.length csp, .int .i64 s.type.kd, .int .i64 s.type.ni, .int .i64 s.type.nj, .int .i64 s.type.nn, .slice ast s.type.kids.length cst, .int .i64 s.body.kd, .int .i64 s.body.ni, .int .i64 s.body.nj, .int .i64 s.body.nn, .slice asb s.body.kids.length csb, .bool s.isDef] 26)
  have HBX := Lib.hid (below_alloc w1 (.cells #[.string ⟨s.name.toArray⟩, .slice asp s.params.length csp, .int .i64 s.type.kd, .int .i64 s.type.ni, .int .i64 s.type.nj, .int .i64 s.type.nn, .slice ast s.type.kids.length cst, .int .i64 s.body.kd, .int .i64 s.body.ni, .int .i64 s.body.nj, .int .i64 s.body.nn, .slice asb s.body.kids.length csb, .bool s.isDef] 26))
  clear hb1 hp hty hbd
  unfold symCells
  go_wp2_with fail
  refine (HA2.out _ (HT.out.below (HB1.out.trans (HBX.out.mono HB1.out.size)))).mono ?_
  intro e w2 h2
  obtain ⟨pv, tv, bv, rfl, hp, hty, hbd, hb2⟩ := h2
  obtain ⟨_, aup, cup, rfl⟩ := hp.form
  obtain ⟨_, aut, cut, rfl⟩ := hty.form
  obtain ⟨_, aub, cub, rfl⟩ := hbd.form
  have HB2 := Lib.hid (HBX.out.trans (hb2.mono HBX.out.size))
  have hxa := (hb2.block w1.heap.size (by simp)).trans HX1.out
  have HXA : Hid ((w2.alloc (.cells #[.string ⟨u.name.toArray⟩, .slice aup u.params.length cup, .int .i64 u.type.kd, .int .i64 u.type.ni, .int .i64 u.type.nj, .int .i64 u.type.nn, .slice aut u.type.kids.length cut, .int .i64 u.body.kd, .int .i64 u.body.ni, .int .i64 u.body.nj, .int .i64 u.body.nn, .slice aub u.body.kids.length cub, .bool u.isDef] 26)).heap[w1.heap.size]? = some (.cells #[.string ⟨s.name.toArray⟩, .slice asp s.params.length csp, .int .i64 s.type.kd, .int .i64 s.type.ni, .int .i64 s.type.nj, .int .i64 s.type.nn, .slice ast s.type.kids.length cst, .int .i64 s.body.kd, .int .i64 s.body.ni, .int .i64 s.body.nj, .int .i64 s.body.nn, .slice asb s.body.kids.length csb, .bool s.isDef] 26 (0, 0))) := Lib.hid ((Lib.alloc_old _ _ _ (Array.getElem?_eq_some_iff.1 hxa).1).trans hxa)
  have HXB := Lib.hid (new_heap w2 #[.string ⟨u.name.toArray⟩, .slice aup u.params.length cup, .int .i64 u.type.kd, .int .i64 u.type.ni, .int .i64 u.type.nj, .int .i64 u.type.nn, .slice aut u.type.kids.length cut, .int .i64 u.body.kd, .int .i64 u.body.ni, .int .i64 u.body.nj, .int .i64 u.body.nn, .slice aub u.body.kids.length cub, .bool u.isDef] 26)
  have HBY := Lib.hid (below_alloc w2 (.cells #[.string ⟨u.name.toArray⟩, .slice aup u.params.length cup, .int .i64 u.type.kd, .int .i64 u.type.ni, .int .i64 u.type.nj, .int .i64 u.type.nn, .slice aut u.type.kids.length cut, .int .i64 u.body.kd, .int .i64 u.body.ni, .int .i64 u.body.nj, .int .i64 u.body.nn, .slice aub u.body.kids.length cub, .bool u.isDef] 26))
  have HZ : Hid ((w2.alloc (.cells #[.string ⟨u.name.toArray⟩, .slice aup u.params.length cup, .int .i64 u.type.kd, .int .i64 u.type.ni, .int .i64 u.type.nj, .int .i64 u.type.nn, .slice aut u.type.kids.length cut, .int .i64 u.body.kd, .int .i64 u.body.ni, .int .i64 u.body.nj, .int .i64 u.body.nn, .slice aub u.body.kids.length cub, .bool u.isDef] 26)).heap.size = w2.heap.size + 1 ∧ w1.heap.size < w2.heap.size) := Lib.hid ⟨by simp, (Array.getElem?_eq_some_iff.1 hxa).1⟩
  have HR2 := Lib.hid (And.intro (hp.kept HBY.out) (And.intro (hty.kept HBY.out) (hbd.kept HBY.out)))
  have HR1b := Lib.hid (And.intro (HR1.out.1.kept (HB2.out.trans (HBY.out.mono HB2.out.size))) (And.intro (HR1.out.2.1.kept (HB2.out.trans (HBY.out.mono HB2.out.size))) (HR1.out.2.2.kept (HB2.out.trans (HBY.out.mono HB2.out.size)))))
  have HB3 : Hid (Below w.heap.size w (w2.alloc (.cells #[.string ⟨u.name.toArray⟩, .slice aup u.params.length cup, .int .i64 u.type.kd, .int .i64 u.type.ni, .int .i64 u.type.nj, .int .i64 u.type.nn, .slice aut u.type.kids.length cut, .int .i64 u.body.kd, .int .i64 u.body.ni, .int .i64 u.body.nj, .int .i64 u.body.nn, .slice aub u.body.kids.length cub, .bool u.isDef] 26))) := Lib.hid (HB1.out.trans ((HB2.out.trans (HBY.out.mono HB2.out.size)).mono HB1.out.size))
  clear hb2 hp hty hbd hxa
  unfold symCells
  have hll : ((s.params.length : Int) != (u.params.length : Int)) = false := by rw [HL.out]; simp
  obtain ⟨x0, x1, x2, x3, x4, x5, x6, x7, x8, x9, x10, x11, x12, _⟩ := cells13 HXA.out
  obtain ⟨y0, y1, y2, y3, y4, y5, y6, y7, y8, y9, y10, y11, y12, _⟩ := cells13 HXB.out
  go_wp2_with fail
  clear x0 x1 x2 x3 x4 x5 x6 x7 x8 x9 x10 x11 x12 y0 y1 y2 y3 y4 y5 y6 y7 y8 y9 y10 y11 y12
  generalize (w2.alloc (.cells #[.string ⟨u.name.toArray⟩, .slice aup u.params.length cup, .int .i64 u.type.kd, .int .i64 u.type.ni, .int .i64 u.type.nj, .int .i64 u.type.nn, .slice aut u.type.kids.length cut, .int .i64 u.body.kd, .int .i64 u.body.ni, .int .i64 u.body.nj, .int .i64 u.body.nn, .slice aub u.body.kids.length cub, .bool u.isDef] 26)) = W3 at *
  refine (form_is HR1b.out.2.1 HR2.out.2.1 HF.out.2.1).mono ?_
  rintro e w4 ⟨rfl, hb4⟩
  have HB4 := Lib.hid hb4
  have HXA4 := Lib.hid ((hb4.block _ (by have := HZ.out; omega)).trans HXA.out)
  have HXB4 := Lib.hid ((hb4.block _ (by have := HZ.out; omega)).trans HXB.out)
  clear hb4
  obtain ⟨x0, x1, x2, x3, x4, x5, x6, x7, x8, x9, x10, x11, x12, _⟩ := cells13 HXA4.out
  obtain ⟨y0, y1, y2, y3, y4, y5, y6, y7, y8, y9, y10, y11, y12, _⟩ := cells13 HXB4.out
  go_wp2_with fail
  clear x0 x1 x2 x3 x4 x5 x6 x7 x8 x9 x10 x11 x12 y0 y1 y2 y3 y4 y5 y6 y7 y8 y9 y10 y11 y12
  refine (form_is (HR1b.out.2.2.kept HB4.out) (HR2.out.2.2.kept HB4.out) HF.out.2.2).mono ?_
  rintro e w5 ⟨rfl, hb5⟩
  have HB5 := Lib.hid (HB4.out.trans (hb5.mono HB4.out.size))
  clear hb5
  go_wp2_with fail
  go_loopw [15] (fun ix wr => ∃ (q : Nat), ix = .int .i64 q ∧ q ≤ s.params.length ∧ Below W3.heap.size W3 wr) (fun i _ => s.params.length - (intOf i).toNat)
  case atStart => exact ⟨0, rfl, by omega, HB5.out⟩
  case round =>
    obtain ⟨q, rfl, hq, hbel⟩ := hrel
    have HB := Lib.hid hbel
    have HXA6 := Lib.hid ((hbel.block _ (by have := HZ.out; omega)).trans HXA.out)
    have HXB6 := Lib.hid ((hbel.block _ (by have := HZ.out; omega)).trans HXB.out)
    have x1 := (cells13 HXA6.out).2.1
    have y1 := (cells13 HXB6.out).2.1
    by_cases hlt : q < s.params.length
    · have hlt' : q < u.params.length := by rw [← HL.out]; exact hlt
      obtain ⟨b, o, k1, i1, j1, n1, l1, v1, rfl, _, hbs, hj1, e0', e1', e2', e3', e4', hr1, hk1⟩ := (HR1b.out.1.kept hbel).at q hlt
      obtain ⟨b2, o2, k2, i2, j2, n2, l2, v2, rfl, _, hbs2, hj2, g0, g1, g2, g3, g4, hr2, hk2⟩ := (HR2.out.1.kept hbel).at q hlt'
      have hf : formT (.node k1 i1 j1 n1 l1) (.node k2 i2 j2 n2 l2) = true := by
        obtain ⟨t', ht1, ht2⟩ := form_at HF.out.1 hj1
        rw [hj2] at ht1
        cases ht1
        exact ht2
      have HS := Lib.hid (And.intro hf (And.intro hk1 hk2))
      have hz0 : w1.heap.size < wr.heap.size := by have := HZ.out; have := hbel.size; omega
      have hz1 : w2.heap.size < wr.heap.size := by have := HZ.out; have := hbel.size; omega
      clear hk1 hk2 hr1 hr2 hj1 hj2 hbel hf
      go_wp2_with fail
      go_region_held3 (fun w' => w'.cell? ⟨b, o + q * 5, none⟩ = some (.int .i64 k1) ∧ w'.cell? ⟨b, o + q * 5 + 1, none⟩ = some (.int .i64 i1) ∧ w'.cell? ⟨b, o + q * 5 + 2, none⟩ = some (.int .i64 j1) ∧ w'.cell? ⟨b, o + q * 5 + 3, none⟩ = some (.int .i64 n1) ∧ w'.cell? ⟨b, o + q * 5 + 4, none⟩ = some v1 ∧ w'.cell? ⟨b2, o2 + q * 5, none⟩ = some (.int .i64 k2) ∧ w'.cell? ⟨b2, o2 + q * 5 + 1, none⟩ = some (.int .i64 i2) ∧ w'.cell? ⟨b2, o2 + q * 5 + 2, none⟩ = some (.int .i64 j2) ∧ w'.cell? ⟨b2, o2 + q * 5 + 3, none⟩ = some (.int .i64 n2) ∧ w'.cell? ⟨b2, o2 + q * 5 + 4, none⟩ = some v2 ∧ w'.cell? ⟨w1.heap.size, 1, none⟩ = some (.slice (some ⟨b, o, none⟩) s.params.length csp) ∧ w'.cell? ⟨w2.heap.size, 1, none⟩ = some (.slice (some ⟨b2, o2, none⟩) u.params.length cup) ∧ Below wr.heap.size wr w')
        (first | exact ⟨e0', e1', e2', e3', e4', g0, g1, g2, g3, g4, x1, y1, Below.refl _ _⟩ | exact ⟨e0', e1', e2', e3', e4', g0, g1, g2, g3, g4, x1, y1, (Below.refl _ _).drew⟩ | exact ⟨q0, q1, q2, q3, q4, m0, m1, m2, m3, m4, z0, z1, kb⟩ | go_keep)
        (first | (go_at_call 11
                  refine (law_form k1 i1 j1 n1 k2 i2 j2 n2 l1 l2 v1 v2 _ (HS.out.2.1.kept (Below.refl _ _).drew) (HS.out.2.2.kept (Below.refl _ _).drew) HS.out.1).mono ?_
                  rintro e w6 ⟨rfl, hb2⟩
                  have q0 := (hb2.cell (p := ⟨b, o + q * 5, none⟩) hbs).trans e0'
                  have q1 := (hb2.cell (p := ⟨b, o + q * 5 + 1, none⟩) hbs).trans e1'
                  have q2 := (hb2.cell (p := ⟨b, o + q * 5 + 2, none⟩) hbs).trans e2'
                  have q3 := (hb2.cell (p := ⟨b, o + q * 5 + 3, none⟩) hbs).trans e3'
                  have q4 := (hb2.cell (p := ⟨b, o + q * 5 + 4, none⟩) hbs).trans e4'
                  have m0 := (hb2.cell (p := ⟨b2, o2 + q * 5, none⟩) hbs2).trans g0
                  have m1 := (hb2.cell (p := ⟨b2, o2 + q * 5 + 1, none⟩) hbs2).trans g1
                  have m2 := (hb2.cell (p := ⟨b2, o2 + q * 5 + 2, none⟩) hbs2).trans g2
                  have m3 := (hb2.cell (p := ⟨b2, o2 + q * 5 + 3, none⟩) hbs2).trans g3
                  have m4 := (hb2.cell (p := ⟨b2, o2 + q * 5 + 4, none⟩) hbs2).trans g4
                  have z0 := (hb2.cell (p := ⟨w1.heap.size, 1, none⟩) hz0).trans x1
                  have z1 := (hb2.cell (p := ⟨w2.heap.size, 1, none⟩) hz1).trans y1
                  have kb : Below wr.heap.size wr w6 := (Below.refl _ _).drew.trans hb2))
      have KB := Lib.hid kb
      clear q0 q1 q2 q3 q4 m0 m1 m2 m3 m4 z0 z1 kb hb2 e0' e1' e2' e3' e4' g0 g1 g2 g3 g4 x1 y1
      have hsz := HB.out.size
      go_wp2
      go_round
      case rel => exact ⟨q + 1, by go_num, by omega, HB.out.trans (KB.out.mono hsz)⟩
      case measure => simp [intOf]; omega
    · obtain rfl : q = s.params.length := by omega
      clear hbel hlt
      have HBW : Hid (Below w.heap.size w wr) := Lib.hid (HB3.out.trans (HB.out.mono HB3.out.size))
      go_wp2_with fail
      refine (HA3.out wr (HT.out.below HBW.out)).mono ?_
      intro e w7 h7
      obtain ⟨pv, tv, bv, rfl, hp, hty, hbd, hb7⟩ := h7
      obtain ⟨_, azp, czp, rfl⟩ := hp.form
      obtain ⟨_, azt, czt, rfl⟩ := hty.form
      obtain ⟨_, azb, czb, rfl⟩ := hbd.form
      have HB7 := Lib.hid hb7
      have hxa := (hb7.block w1.heap.size (Array.getElem?_eq_some_iff.1 HXA6.out).1).trans HXA6.out
      have HXA8 : Hid ((w7.alloc (.cells #[.string ⟨z.name.toArray⟩, .slice azp z.params.length czp, .int .i64 z.type.kd, .int .i64 z.type.ni, .int .i64 z.type.nj, .int .i64 z.type.nn, .slice azt z.type.kids.length czt, .int .i64 z.body.kd, .int .i64 z.body.ni, .int .i64 z.body.nj, .int .i64 z.body.nn, .slice azb z.body.kids.length czb, .bool z.isDef] 26)).heap[w1.heap.size]? = some (.cells #[.string ⟨s.name.toArray⟩, .slice asp s.params.length csp, .int .i64 s.type.kd, .int .i64 s.type.ni, .int .i64 s.type.nj, .int .i64 s.type.nn, .slice ast s.type.kids.length cst, .int .i64 s.body.kd, .int .i64 s.body.ni, .int .i64 s.body.nj, .int .i64 s.body.nn, .slice asb s.body.kids.length csb, .bool s.isDef] 26 (0, 0))) := Lib.hid ((Lib.alloc_old _ _ _ (Array.getElem?_eq_some_iff.1 hxa).1).trans hxa)
      have HXC := Lib.hid (new_heap w7 #[.string ⟨z.name.toArray⟩, .slice azp z.params.length czp, .int .i64 z.type.kd, .int .i64 z.type.ni, .int .i64 z.type.nj, .int .i64 z.type.nn, .slice azt z.type.kids.length czt, .int .i64 z.body.kd, .int .i64 z.body.ni, .int .i64 z.body.nj, .int .i64 z.body.nn, .slice azb z.body.kids.length czb, .bool z.isDef] 26)
      have HBZ := Lib.hid (below_alloc w7 (.cells #[.string ⟨z.name.toArray⟩, .slice azp z.params.length czp, .int .i64 z.type.kd, .int .i64 z.type.ni, .int .i64 z.type.nj, .int .i64 z.type.nn, .slice azt z.type.kids.length czt, .int .i64 z.body.kd, .int .i64 z.body.ni, .int .i64 z.body.nj, .int .i64 z.body.nn, .slice azb z.body.kids.length czb, .bool z.isDef] 26))
      have HZ8 : Hid ((w7.alloc (.cells #[.string ⟨z.name.toArray⟩, .slice azp z.params.length czp, .int .i64 z.type.kd, .int .i64 z.type.ni, .int .i64 z.type.nj, .int .i64 z.type.nn, .slice azt z.type.kids.length czt, .int .i64 z.body.kd, .int .i64 z.body.ni, .int .i64 z.body.nj, .int .i64 z.body.nn, .slice azb z.body.kids.length czb, .bool z.isDef] 26)).heap.size = w7.heap.size + 1 ∧ w1.heap.size < w7.heap.size) := Lib.hid ⟨by simp, (Array.getElem?_eq_some_iff.1 hxa).1⟩
      have HR3 := Lib.hid (And.intro (hp.kept HBZ.out) (And.intro (hty.kept HBZ.out) (hbd.kept HBZ.out)))
      have hw8 : Below W3.heap.size W3 (w7.alloc (.cells #[.string ⟨z.name.toArray⟩, .slice azp z.params.length czp, .int .i64 z.type.kd, .int .i64 z.type.ni, .int .i64 z.type.nj, .int .i64 z.type.nn, .slice azt z.type.kids.length czt, .int .i64 z.body.kd, .int .i64 z.body.ni, .int .i64 z.body.nj, .int .i64 z.body.nn, .slice azb z.body.kids.length czb, .bool z.isDef] 26)) := HB.out.trans ((hb7.trans (HBZ.out.mono hb7.size)).mono HB.out.size)
      have HR18 := Lib.hid (And.intro (HR1b.out.1.kept hw8) (And.intro (HR1b.out.2.1.kept hw8) (HR1b.out.2.2.kept hw8)))
      have HBW8 : Hid (Below w.heap.size w (w7.alloc (.cells #[.string ⟨z.name.toArray⟩, .slice azp z.params.length czp, .int .i64 z.type.kd, .int .i64 z.type.ni, .int .i64 z.type.nj, .int .i64 z.type.nn, .slice azt z.type.kids.length czt, .int .i64 z.body.kd, .int .i64 z.body.ni, .int .i64 z.body.nj, .int .i64 z.body.nn, .slice azb z.body.kids.length czb, .bool z.isDef] 26))) := Lib.hid (HBW.out.trans ((hb7.trans (HBZ.out.mono hb7.size)).mono HBW.out.size))
      clear hb7 hp hty hbd hxa hw8 x1 y1
      unfold symCells
      cases hone : oneB m
      case false =>
        have hways : ((m : Int) + 1 != 2) = false ∨ ((m : Int) + 1 != 2) = true ∧ decide ((m : Int) + 1 < 12) = false ∧ decide ((19 : Int) < (m : Int) + 1) = false := by
          unfold oneB at hone
          by_cases h1 : m = 1
          · exact .inl (by simp [h1])
          · refine .inr ⟨by simp; omega, ?_, ?_⟩
            · simp [h1] at hone; simp; omega
            · simp [h1] at hone; simp; omega
        clear hone
        obtain ⟨x0, x1, x2, x3, x4, x5, x6, x7, x8, x9, x10, x11, x12, _⟩ := cells13 HXA8.out
        obtain ⟨y0, y1, y2, y3, y4, y5, y6, y7, y8, y9, y10, y11, y12, _⟩ := cells13 HXC.out
        rcases hways with p1 | ⟨p1, p2, p3⟩
        all_goals
          go_wp2_with fail
          refine (wakes17 _ (HT.out.below HBW8.out)).mono ?_
          rintro e w9 ⟨rfl, hb9⟩
          have HB9 : Hid (Below w.heap.size w w9) := Lib.hid (HBW8.out.trans (hb9.mono HBW8.out.size))
          clear hb9 x0 x1 x2 x3 x4 x5 x6 x7 x8 x9 x10 x11 x12 y0 y1 y2 y3 y4 y5 y6 y7 y8 y9 y10 y11 y12
          go_wp2
          go_ret
          exact ⟨rfl, HB9.out⟩
      case true =>
        have hzs := HONE.out hone
        have hways : ((m : Int) + 1 != 2) = true ∧ (decide ((m : Int) + 1 < 12) = true ∨ decide ((m : Int) + 1 < 12) = false ∧ decide ((19 : Int) < (m : Int) + 1) = true) := by
          unfold oneB at hone
          simp at hone
          refine ⟨by simp; omega, ?_⟩
          by_cases h2 : m < 11
          · exact .inl (by simp; omega)
          · exact .inr ⟨by simp; omega, by simp; omega⟩
        clear hone
        subst hzs
        obtain ⟨p1, hways⟩ := hways
        rcases hways with p2 | ⟨p2, p3⟩
        all_goals
          obtain ⟨x0, x1, x2, x3, x4, x5, x6, x7, x8, x9, x10, x11, x12, _⟩ := cells13 HXA8.out
          obtain ⟨y0, y1, y2, y3, y4, y5, y6, y7, y8, y9, y10, y11, y12, _⟩ := cells13 HXC.out
          go_wp2_with fail
          clear x0 x1 x2 x3 x4 x5 x6 x7 x8 x9 x10 x11 x12 y0 y1 y2 y3 y4 y5 y6 y7 y8 y9 y10 y11 y12
          refine (same_is HR18.out.2.1 HR3.out.2.1).mono ?_
          rintro e w10 ⟨rfl, hb10⟩
          have HBa := Lib.hid hb10
          have HXAa := Lib.hid ((hb10.block _ (by have := HZ8.out; omega)).trans HXA8.out)
          have HXCa := Lib.hid ((hb10.block _ (by have := HZ8.out; omega)).trans HXC.out)
          clear hb10
          obtain ⟨x0, x1, x2, x3, x4, x5, x6, x7, x8, x9, x10, x11, x12, _⟩ := cells13 HXAa.out
          obtain ⟨y0, y1, y2, y3, y4, y5, y6, y7, y8, y9, y10, y11, y12, _⟩ := cells13 HXCa.out
          go_wp2_with fail
          clear x0 x1 x2 x3 x4 x5 x6 x7 x8 x9 x10 x11 x12 y0 y1 y2 y3 y4 y5 y6 y7 y8 y9 y10 y11 y12
          refine (same_is (HR18.out.2.2.kept HBa.out) (HR3.out.2.2.kept HBa.out)).mono ?_
          rintro e w11 ⟨rfl, hb11⟩
          have HBb := Lib.hid (HBa.out.trans (hb11.mono HBa.out.size))
          have HXAb := Lib.hid ((HBb.out.block _ (by have := HZ8.out; omega)).trans HXA8.out)
          have HXCb := Lib.hid ((HBb.out.block _ (by have := HZ8.out; omega)).trans HXC.out)
          clear hb11
          obtain ⟨x0, x1, x2, x3, x4, x5, x6, x7, x8, x9, x10, x11, x12, _⟩ := cells13 HXAb.out
          obtain ⟨y0, y1, y2, y3, y4, y5, y6, y7, y8, y9, y10, y11, y12, _⟩ := cells13 HXCb.out
          go_wp2_with fail
          clear x0 x1 x2 x3 x4 x5 x6 x7 x8 x9 x10 x11 x12 y0 y1 y2 y3 y4 y5 y6 y7 y8 y9 y10 y11 y12
          refine (terms_is (HR18.out.1.kept HBb.out) (HR3.out.1.kept HBb.out)).mono ?_
          rintro e w12 ⟨rfl, hb12⟩
          have HBc := Lib.hid (HBb.out.trans (hb12.mono HBb.out.size))
          clear hb12
          have HBd : Hid (Below w.heap.size w w12) := Lib.hid (HBW8.out.trans (HBc.out.mono HBW8.out.size))
          go_wp2_with fail
          refine (wakes17 _ (HT.out.below HBd.out)).mono ?_
          rintro e w13 ⟨rfl, hb13⟩
          have HBe : Hid (Below w.heap.size w w13) := Lib.hid (HBd.out.trans (hb13.mono HBd.out.size))
          clear hb13
          go_wp2
          go_ret
          exact ⟨rfl, HBe.out⟩

theorem sigLevels_walk (n i j k l : Int) (w : World) (ht : Tab w) :
    Calls Tryd.prog 4 #[.int .i64 n, .int .i64 i, .int .i64 j, .int .i64 k, .int .i64 l] w fun e w' => e = .returned (.bool true) ∧ Below w.heap.size w w' := by
  rcases Classical.em (NoSym n i j) with hn | hn
  · exact sigLevels_one n i j k l hn w ht
  rcases Classical.em (NoSym n k l) with hn2 | hn2
  · exact sigLevels_two n i j k l hn hn2 w ht
  have hn3 : ¬ NoSym n i l := by unfold NoSym at hn hn2 ⊢; omega
  obtain ⟨m, I, J, s, s0, rfl, rfl, rfl, hm, hI, hJ, h1, h0, f1, _, a1⟩ := at_any n i j hn
  obtain ⟨m2, K, L, u, u0, e1, rfl, rfl, hm2, hK, hL, h2, h02, f2, _, a2⟩ := at_any _ k l hn2
  obtain rfl : m = m2 := by omega
  obtain ⟨m3, I3, L3, z, z0, e3, e4, e5, hm3, hI3, hL3, h3, h03, f3, _, a3⟩ := at_any _ _ _ hn3
  obtain rfl : m = m3 := by omega
  obtain rfl : I = I3 := by omega
  obtain rfl : L = L3 := by omega
  rw [h0] at h02
  cases h02
  refine sigLevels_sym m I J K L hm (formTs_trans _ _ _ f1.2.1 (formTs_symm _ _ f2.2.1)) (formT_trans _ _ _ f1.2.2.1 (formT_symm _ _ f2.2.2.1)) (formT_trans _ _ _ f1.2.2.2.1 (formT_symm _ _ f2.2.2.2.1)) (fun ho => ?_) w ht a1 a2 a3
  unfold oneB at ho
  simp at ho
  have hj := noJ_of (lines_j m hm ho.1 ho.2)
  rw [lineM_same (j := L) (j' := J) hj, h1] at h3
  cases h3
  rfl
end Go.Proofs.YtfklmcmoackepaaDoor
