/- Walks of transhipkeep.GreatFile and GreatDeriv. -/
import Derived.Test.YtfpiogaakblpeaaDoorWeigh
namespace Go.Proofs.YtfpiogaakblpeaaDoor
open Go.RowKit

def greatF (ctx : List DT) (d : DT) (most : Int) : Bool := decide (most < ctx.length) || decide (most < weighs ctx most 201 (weigh d most 200))

def fileV (cv : Value) (r i : Int) (v : Value) : Value := .agg #[cv, .int .i64 r, .int .i64 i, v]

set_option maxHeartbeats 1000000 in
theorem greatFile_any (cs : List DT) (cv : Value) (r i : Int) (ks : List DT) (v : Value) (most : Int) (w : World) (hc : RepK w cs cv) (hrep : RepK w ks v) (hm0 : 0 ≤ most) (hm1 : most ≤ 1000000) :
    Calls Tryd.prog 12 #[fileV cv r i v, .int .i64 most] w fun e w' => e = .returned (.bool (greatF cs (.node r i ks) most)) ∧ Below w.heap.size w w' := by
  obtain ⟨hlen, a, c, rfl⟩ := hc.form
  obtain ⟨hlen2, a2, c2, rfl⟩ := hrep.form
  clear hlen2
  have HC := Lib.hid hc
  have HR := Lib.hid hrep
  clear hc hrep
  unfold maxLen at hlen
  by_cases hl : most < cs.length
  · have hg : greatF cs (.node r i ks) most = true := by simp [greatF, hl]
    have HG := Lib.hid hg
    clear hg
    unfold fileV
    go_enter Tryd.func12, Tryd.ntmps12
    go_wp2
    go_ret
    exact ⟨by rw [HG.out]; rfl, (Below.refl _ _).alloc (Nat.le_refl _) _⟩
  · have hg : greatF cs (.node r i ks) most = decide (most < weighs cs most 201 (weigh (.node r i ks) most 200)) := by simp [greatF, hl]
    have hwi := weigh_in (.node r i ks) most 200 hm0
    have HG := Lib.hid hg
    clear hg
    unfold fileV
    go_enter Tryd.func12, Tryd.ntmps12
    go_wp2_with fail
    refine (weigh_any (SizeOf.sizeOf (DT.node r i ks) + 1) r i ks _ most 200 _ (by omega) (HR.out.kept ((Below.refl _ _).alloc (Nat.le_refl _) _)) (by omega) (by omega) (by omega) (by omega)).mono ?_
    rintro e w1 ⟨rfl, hb1⟩
    have hb1' : Below (w.heap.size + 1) (w.alloc (.cells #[.slice a cs.length c, .int .i64 r, .int .i64 i, .slice a2 ks.length c2] 26)) w1 := by simpa using hb1
    have HB1 := Lib.hid hb1'
    clear hb1 hb1'
    go_wp2
    go_loopw [5, 6] (fun n ix wr => ∃ (nn : Int) (j : Nat), n = .int .i64 nn ∧ ix = .int .i64 j ∧ j ≤ cs.length ∧ 1 ≤ nn ∧ nn ≤ most + 1 ∧ weighs (cs.drop j) most 201 nn = weighs cs most 201 (weigh (.node r i ks) most 200) ∧ Below (w.heap.size + 1) (w.alloc (.cells #[.slice a cs.length c, .int .i64 r, .int .i64 i, .slice a2 ks.length c2] 26)) wr) (fun _ i _ => cs.length - (intOf i).toNat)
    case atStart => exact ⟨_, 0, rfl, rfl, by omega, by omega, by omega, rfl, HB1.out⟩
    case round =>
      obtain ⟨nn, j, rfl, rfl, hj, hn1, hn2, hws, hbel⟩ := hrel
      have hB := below_of_box hbel
      have hsz : w.heap.size + 1 ≤ wr.heap.size := by simpa using hbel.size
      have hc2 : wr.cell? ⟨w.heap.size, 0, none⟩ = some (.slice a cs.length c) := by rw [box_cell hbel 0 (by simp)]; rfl
      by_cases hlt : j < cs.length
      · by_cases hnm : nn ≤ most
        · obtain ⟨b, o, r1, i1, l1, v1, rfl, _, hbs, hj1, e0, e1, e2, hr1, hi1, hk1⟩ := (HC.out.kept hB).at j hlt
          have hdrop : cs.drop j = .node r1 i1 l1 :: cs.drop (j + 1) := by
            rw [List.drop_eq_getElem_cons hlt]
            congr 1
            rw [List.getElem?_eq_getElem hlt] at hj1
            exact Option.some.inj hj1
          rw [hdrop, weighs, if_pos hnm] at hws
          have hwi1 := weigh_in (.node r1 i1 l1) (most - nn) 200 (by omega)
          have HS := Lib.hid (And.intro hws (And.intro hk1 (And.intro hr1 hi1)))
          have HB := Lib.hid (And.intro hbel hB)
          clear hws hk1 hr1 hi1 hj1 hdrop hbel hB
          go_wp2_with fail
          refine (weigh_any (SizeOf.sizeOf (DT.node r1 i1 l1) + 1) r1 i1 l1 v1 (most - nn) 200 _ (by omega) HS.out.2.1 (by omega) (by omega) (by omega) (by omega)).mono ?_
          rintro e w2 ⟨rfl, hb2⟩
          have HB2 := Lib.hid hb2
          clear hb2
          go_wp2
          go_round
          case rel => exact ⟨_, j + 1, rfl, by go_num, by omega, by omega, by omega, HS.out.1, HB.out.1.trans (HB2.out.mono hsz)⟩
          case measure => simp [intOf]; omega
        · have hfin : weighs cs most 201 (weigh (.node r i ks) most 200) = nn := by
            rw [← hws, List.drop_eq_getElem_cons hlt, weighs, if_neg hnm]
          have HF := Lib.hid (And.intro hfin hB)
          clear hws hfin hbel hB
          go_wp2
          go_ret
          exact ⟨by rw [HG.out, HF.out.1]; first | rfl | simp [hnm] | (simp; omega), HF.out.2⟩
      · have hjl : j = cs.length := by omega
        subst hjl
        have hfin : weighs cs most 201 (weigh (.node r i ks) most 200) = nn := by rw [← hws, List.drop_length, weighs]
        have HF := Lib.hid (And.intro hfin hB)
        clear hws hfin hbel hB
        go_wp2
        go_ret
        exact ⟨by rw [HG.out, HF.out.1]; rfl, HF.out.2⟩

theorem greatDeriv_any (r i : Int) (ks : List DT) (v : Value) (most : Int) (w : World) (hrep : RepK w ks v) (hm0 : 0 ≤ most) (hm1 : most ≤ 1000000) :
    Calls Tryd.prog 18 #[derivV r i v, .int .i64 most] w fun e w' => e = .returned (.bool (decide (most < weigh (.node r i ks) most 200))) ∧ Below w.heap.size w w' := by
  obtain ⟨hlen2, a2, c2, rfl⟩ := hrep.form
  clear hlen2
  have HR := Lib.hid hrep
  clear hrep
  unfold derivV
  go_enter Tryd.func18, Tryd.ntmps18
  go_wp2_with fail
  refine (weigh_any (SizeOf.sizeOf (DT.node r i ks) + 1) r i ks _ most 200 _ (by omega) (HR.out.kept ((Below.refl _ _).alloc (Nat.le_refl _) _)) (by omega) (by omega) (by omega) (by omega)).mono ?_
  rintro e w1 ⟨rfl, hb1⟩
  have HB1 := Lib.hid hb1
  clear hb1
  go_wp2
  go_ret
  exact ⟨rfl, below_of_box (by simpa using HB1.out)⟩
end Go.Proofs.YtfpiogaakblpeaaDoor
