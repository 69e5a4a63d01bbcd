/- Walks of show.Deriv and show.File. -/
import Derived.Test.YtfpiogaakblpeaaDoorShow
import Derived.Test.YtfpiogaakblpeaaDoorGreat
namespace Go.Proofs.YtfpiogaakblpeaaDoor
open Go.RowKit

theorem ShowSt.fresh (w : World) : ShowSt w (w.alloc (.cells #[.pointer none, .slice none 0 0] tB)) w.heap.size [] (w.alloc (.cells #[.pointer none, .slice none 0 0] tB)) :=
  ⟨Lib.IsBuilderF.of (Lib.fresh_isBuilder tB tU w), below_alloc _ _, Lib.OthersKept.refl _ _ _⟩

theorem stringOf {w0 w w1 : World} {b : Nat} {L : List UInt8} (h : ShowSt w0 w b L w1) :
    Calls Tryd.prog 32 #[.pointer (some ⟨b, 0, none⟩)] w1 fun e w2 => e = .returned (.string ⟨L.toArray⟩) ∧ Below w0.heap.size w1 w2 := by
  refine (Tryd.Builder_String_any_k w0.heap.size b L w1 h.bld h.bel.size).mono ?_
  rintro e w2 ⟨rfl, _, h2, _⟩
  exact ⟨rfl, h2⟩

def showT (d : DT) : List UInt8 := if rightD d = true then showD d else []

set_option maxRecDepth 100000 in
set_option maxHeartbeats 1000000 in
theorem showDeriv_any (r i : Int) (ks : List DT) (v : Value) (w : World) (hrep : RepK w ks v) (hr : In64 r) (hi : In64 i) (ht : Tab w) (hlen : (showD (.node r i ks)).length ≤ 70368744177664) :
    Calls Tryd.prog 13 #[derivV r i v] w fun e w' => e = .returned (.string ⟨(showT (.node r i ks)).toArray⟩) ∧ Below w.heap.size w w' := by
  obtain ⟨hkl, a, c, rfl⟩ := hrep.form
  clear hkl
  have HT := Lib.hid ht
  have HR := Lib.hid (And.intro hrep (And.intro hr (And.intro hi hlen)))
  clear ht hrep hr hi hlen
  unfold derivV
  go_enter Tryd.func13, Tryd.ntmps13
  go_wp2_with fail
  refine (right_any _ r i ks _ _ (Nat.lt_succ_self _) (HR.out.1.kept (below_alloc _ _)) HR.out.2.1 HR.out.2.2.1).mono ?_
  rintro e w1 ⟨rfl, hb1⟩
  have HB1 : Hid (Below w.heap.size w w1) := Lib.hid ((below_alloc _ _).trans (hb1.mono (by simp)))
  cases hq : rightD (.node r i ks)
  · have HV : Hid (showT (.node r i ks) = []) := Lib.hid (by simp [showT, hq])
    clear hq hb1
    go_wp2
    go_ret
    exact ⟨by rw [HV.out]; rfl, HB1.out⟩
  · have HV : Hid (showT (.node r i ks) = showD (.node r i ks)) := Lib.hid (by simp [showT, hq])
    clear hq
    have hbx : w1.heap[w.heap.size]? = some (.cells #[.int .i64 r, .int .i64 i, .slice a ks.length c] 24 (0, 0)) := by rw [hb1.block _ (by simp)]; exact heap_new _ _ _
    have hlt := (Array.getElem?_eq_some_iff.1 hbx).1
    obtain ⟨c0, c1, c2⟩ := box_cells hbx
    clear hbx hb1
    go_wp2_with fail
    refine (show_all _ r i ks _ w1 _ w1.heap.size [] (Nat.lt_succ_self _) (HR.out.1.kept HB1.out) HR.out.2.1 HR.out.2.2.1 (HT.out.below HB1.out) (ShowSt.fresh w1) (by simpa using HR.out.2.2.2)).mono ?_
    rintro e w2 ⟨rfl, hs2⟩
    have HS2 := Lib.hid hs2
    clear hs2
    go_wp2_with fail
    refine (stringOf HS2.out).mono ?_
    rintro e w3 ⟨rfl, hb3⟩
    have HB3 := Lib.hid hb3
    clear hb3
    go_wp2
    go_ret
    exact ⟨by rw [HV.out]; rfl, HB1.out.trans ((HS2.out.bel.trans HB3.out).mono HB1.out.size)⟩
end Go.Proofs.YtfpiogaakblpeaaDoor
