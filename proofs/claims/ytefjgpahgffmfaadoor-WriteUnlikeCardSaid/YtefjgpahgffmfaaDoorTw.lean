/- Walks of transhipkeep.weigh, Great. -/
import Derived.Test.YtefjgpahgffmfaaDoorTt
namespace Go.Proofs.YtefjgpahgffmfaaDoor
open Go.RowKit

mutual
def weigh : TT → Int → Int → Int
  | .node _ _ _ _ ks, most, deep => if deep < 0 then most + 1 else weighs ks most deep 1
def weighs : List TT → Int → Int → Int → Int
  | [], _, _, n => n
  | k :: ks, most, deep, n => if n ≤ most then weighs ks most deep (n + weigh k (most - n) (deep - 1)) else n
end

mutual
theorem weigh_in : ∀ (d : TT) (most deep : Int), 0 ≤ most → 1 ≤ weigh d most deep ∧ weigh d most deep ≤ most + 1
  | .node _ _ _ _ ks, most, deep, h => by
    simp only [weigh]
    split
    · omega
    · exact weighs_in ks most deep 1 (by omega) (by omega)
theorem weighs_in : ∀ (ks : List TT) (most deep n : Int), 1 ≤ n → n ≤ most + 1 → 1 ≤ weighs ks most deep n ∧ weighs ks most deep n ≤ most + 1
  | [], most, deep, n, h1, h2 => by simp only [weighs]; exact ⟨h1, h2⟩
  | k :: ks, most, deep, n, h1, h2 => by
    simp only [weighs]
    split
    · have := weigh_in k (most - n) (deep - 1) (by omega)
      exact weighs_in ks most deep _ (by omega) (by omega)
    · exact ⟨h1, h2⟩
end

set_option maxHeartbeats 1000000 in
theorem weigh_any : ∀ (N : Nat) (k0 i0 j0 n0 : Int) (ks : List TT) (v : Value) (most deep : Int) (w : World), SizeOf.sizeOf (TT.node k0 i0 j0 n0 ks) < N → RepT w ks v → 0 ≤ most → most ≤ 1000000 → -1 ≤ deep → deep ≤ 1000 →
    Calls Tryd.prog 32 #[termV k0 i0 j0 n0 v, .int .i64 most, .int .i64 deep] w fun e w' => e = .returned (.int .i64 (weigh (.node k0 i0 j0 n0 ks) most deep)) ∧ Below w.heap.size w w' := by
  intro N
  induction N with
  | zero => intro k0 i0 j0 n0 ks v most deep w h; omega
  | succ N ih =>
    intro k0 i0 j0 n0 ks v most deep w hN hrep hm0 hm1 hd0 hd1
    obtain ⟨hlen, a, c, rfl⟩ := hrep.form
    by_cases hd : deep < 0
    · have HR := Lib.hid hrep
      have HL := Lib.hid hlen
      clear hrep hlen
      unfold termV
      go_enter Tryd.func32, Tryd.ntmps32
      go_wp2
      go_ret
      exact ⟨by simp [weigh, hd], (Below.refl _ _).alloc (Nat.le_refl _) _⟩
    · have HR := Lib.hid hrep
      unfold maxLen at hlen
      clear hrep
      have hw : weigh (.node k0 i0 j0 n0 ks) most deep = weighs ks most deep 1 := by simp [weigh, hd]
      have HW := Lib.hid hw
      clear hw
      unfold termV
      go_enter Tryd.func32, Tryd.ntmps32
      go_wp2
      go_loopw [7, 8] (fun n ix wr => ∃ (nn : Int) (j : Nat), n = .int .i64 nn ∧ ix = .int .i64 j ∧ j ≤ ks.length ∧ 1 ≤ nn ∧ nn ≤ most + 1 ∧ weighs (ks.drop j) most deep nn = weighs ks most deep 1 ∧ Below (w.heap.size + 1) (w.alloc (.cells #[.int .i64 k0, .int .i64 i0, .int .i64 j0, .int .i64 n0, .slice a ks.length c] 24)) wr) (fun _ i _ => ks.length - (intOf i).toNat)
      case atStart => exact ⟨1, 0, rfl, rfl, by omega, by omega, by omega, rfl, Below.refl _ _⟩
      case round =>
        obtain ⟨nn, j, rfl, rfl, hj, hn1, hn2, hws, hbel⟩ := hrel
        have hB := below_of_box hbel
        have hsz : w.heap.size + 1 ≤ wr.heap.size := by simpa using hbel.size
        have hc4 : wr.cell? ⟨w.heap.size, 4, none⟩ = some (.slice a ks.length c) := by rw [box_cell hbel 4 (by simp)]; rfl
        by_cases hlt : j < ks.length
        · by_cases hnm : nn ≤ most
          · obtain ⟨b, o, k1, i1, j1, n1, l1, v1, rfl, _, hbs, hj1, e0, e1, e2, e3, e4, hr1, hk1⟩ := (HR.out.kept hB).at j hlt
            have hdrop : ks.drop j = .node k1 i1 j1 n1 l1 :: ks.drop (j + 1) := by
              rw [List.drop_eq_getElem_cons hlt]
              congr 1
              rw [List.getElem?_eq_getElem hlt] at hj1
              exact Option.some.inj hj1
            rw [hdrop, weighs, if_pos hnm] at hws
            have hwi := weigh_in (.node k1 i1 j1 n1 l1) (most - nn) (deep - 1) (by omega)
            have hlt1 := TT.lt hj1 k0 i0 j0 n0
            have HS := Lib.hid (And.intro hws hk1)
            have HB := Lib.hid (And.intro hbel hB)
            clear hws hk1 hr1 hj1 hdrop hbel hB
            go_wp2_with fail
            refine (ih k1 i1 j1 n1 l1 v1 (most - nn) (deep - 1) _ (by omega) HS.out.2 (by omega) (by omega) (by omega) (by omega)).mono ?_
            rintro e w2 ⟨rfl, hb2⟩
            have HB2 := Lib.hid hb2
            clear hb2
            go_wp2
            go_round
            case rel => exact ⟨_, j + 1, rfl, by go_num, by omega, by omega, by omega, HS.out.1, HB.out.1.trans (HB2.out.mono hsz)⟩
            case measure => simp [intOf]; omega
          · have hfin : weighs ks most deep 1 = nn := by
              rw [← hws, List.drop_eq_getElem_cons hlt, weighs, if_neg hnm]
            have HF := Lib.hid (And.intro hfin hB)
            clear hws hfin hbel hB
            go_wp2
            go_ret
            exact ⟨by rw [HW.out, HF.out.1]; rfl, HF.out.2⟩
        · have hjl : j = ks.length := by omega
          subst hjl
          have hfin : weighs ks most deep 1 = nn := by rw [← hws, List.drop_length, weighs]
          have HF := Lib.hid (And.intro hfin hB)
          clear hws hfin hbel hB
          go_wp2
          go_ret
          exact ⟨by rw [HW.out, HF.out.1]; rfl, HF.out.2⟩
end Go.Proofs.YtefjgpahgffmfaaDoor
