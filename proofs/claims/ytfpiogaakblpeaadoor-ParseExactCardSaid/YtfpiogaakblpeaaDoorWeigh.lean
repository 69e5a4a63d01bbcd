/- Walk of transhipkeep.weighDeriv. -/
import Derived.Test.YtfpiogaakblpeaaDoorTree
import Derived.Lib.Hide
namespace Go.Proofs.YtfpiogaakblpeaaDoor
open Go.RowKit

mutual
def weigh : DT → Int → Int → Int
  | .node _ _ ks, most, deep => if deep < 0 then most + 1 else weighs ks most deep 1
def weighs : List DT → Int → Int → Int → Int
  | [], _, _, n => n
  | k :: ks, most, deep, n => if n ≤ most then weighs ks most deep (n + weigh k (most - n) (deep - 1)) else n
end

mutual
theorem weigh_in : ∀ (d : DT) (most deep : Int), 0 ≤ most → 1 ≤ weigh d most deep ∧ weigh d most deep ≤ most + 1
  | .node _ _ ks, most, deep, h => by
    simp only [weigh]
    split
    · omega
    · exact weighs_in ks most deep 1 (by omega) (by omega)
theorem weighs_in : ∀ (ks : List DT) (most deep n : Int), 1 ≤ n → n ≤ most + 1 → 1 ≤ weighs ks most deep n ∧ weighs ks most deep n ≤ most + 1
  | [], most, deep, n, h1, h2 => by simp only [weighs]; exact ⟨h1, h2⟩
  | k :: ks, most, deep, n, h1, h2 => by
    simp only [weighs]
    split
    · have := weigh_in k (most - n) (deep - 1) (by omega)
      exact weighs_in ks most deep _ (by omega) (by omega)
    · exact ⟨h1, h2⟩
end

def derivV (r i : Int) (v : Value) : Value := .agg #[.int .i64 r, .int .i64 i, v]

theorem DT.lt {ks : List DT} {j : Nat} {k : DT} (h : ks[j]? = some k) (r i : Int) : SizeOf.sizeOf k < SizeOf.sizeOf (DT.node r i ks) := by
  have := List.sizeOf_lt_of_mem (List.mem_of_getElem? h)
  simp; omega

theorem box_cell {w wr : World} {cs : Array Value} {t : TypeId} (hb : Below (w.heap.size + 1) (w.alloc (.cells cs t)) wr) (k : Nat) (hk : k < cs.size) : wr.cell? ⟨w.heap.size, k, none⟩ = cs[k]? := by
  rw [hb.cell (p := ⟨w.heap.size, k, none⟩) (by simp)]
  have hh : (w.alloc (.cells cs t)).heap[w.heap.size]? = some (.cells cs t) := by unfold World.alloc; simp
  unfold World.cell?
  simp only [hh]; simp

/-- element j of a row that can be read -/
theorem RepK.at {w : World} {ks : List DT} {a : Option Addr} {n c : Nat} (h : RepK w ks (.slice a n c)) (j : Nat) (hj : j < ks.length) :
    ∃ (b o : Nat) (r i : Int) (l : List DT) (v : Value), a = some ⟨b, o, none⟩ ∧ n = ks.length ∧ b < w.heap.size ∧ ks[j]? = some (.node r i l) ∧ w.cell? ⟨b, o + j * 3, none⟩ = some (.int .i64 r) ∧ w.cell? ⟨b, o + j * 3 + 1, none⟩ = some (.int .i64 i) ∧ w.cell? ⟨b, o + j * 3 + 2, none⟩ = some v ∧ In64 r ∧ In64 i ∧ RepK w l v := by
  cases h with
  | nil => simp at hj
  | row b o c ks kv hn hb hc hk =>
    cases hq : ks[j] with
    | node r i l =>
      have he : ks[j]? = some (.node r i l) := by rw [List.getElem?_eq_getElem hj, hq]
      obtain ⟨c0, c1, c2, hr, hi⟩ := hc j r i l he
      exact ⟨b, o, r, i, l, kv j, rfl, rfl, hb, he, c0, c1, c2, hr, hi, hk j r i l he⟩

theorem below_of_box {w wr : World} {o : Obj} (hb : Below (w.heap.size + 1) (w.alloc o) wr) : Below w.heap.size w wr :=
  ((Below.refl _ w).alloc (Nat.le_refl _) o).trans (hb.mono (Nat.le_succ _))

set_option maxHeartbeats 1000000 in
theorem weigh_any : ∀ (N : Nat) (r i : Int) (ks : List DT) (v : Value) (most deep : Int) (w : World), SizeOf.sizeOf (DT.node r i ks) < N → RepK w ks v → 0 ≤ most → most ≤ 1000000 → -1 ≤ deep → deep ≤ 1000 →
    Calls Tryd.prog 29 #[derivV r i v, .int .i64 most, .int .i64 deep] w fun e w' => e = .returned (.int .i64 (weigh (.node r i ks) most deep)) ∧ Below w.heap.size w w' := by
  intro N
  induction N with
  | zero => intro r i ks v most deep w h; omega
  | succ N ih =>
    intro r i ks v most deep w hN hrep hm0 hm1 hd0 hd1
    obtain ⟨hlen, a, c, rfl⟩ := hrep.form
    by_cases hd : deep < 0
    · have HR := Lib.hid hrep
      have HL := Lib.hid hlen
      clear hrep hlen
      unfold derivV
      go_enter Tryd.func29, Tryd.ntmps29
      go_wp2
      go_ret
      exact ⟨by simp [weigh, hd], (Below.refl _ _).alloc (Nat.le_refl _) _⟩
    · have HR := Lib.hid hrep
      unfold maxLen at hlen
      clear hrep
      have hw : weigh (.node r i ks) most deep = weighs ks most deep 1 := by simp [weigh, hd]
      have HW := Lib.hid hw
      clear hw
      unfold derivV
      go_enter Tryd.func29, Tryd.ntmps29
      go_wp2
      go_loopw [7, 8] (fun n ix wr => ∃ (nn : Int) (j : Nat), n = .int .i64 nn ∧ ix = .int .i64 j ∧ j ≤ ks.length ∧ 1 ≤ nn ∧ nn ≤ most + 1 ∧ weighs (ks.drop j) most deep nn = weighs ks most deep 1 ∧ Below (w.heap.size + 1) (w.alloc (.cells #[.int .i64 r, .int .i64 i, .slice a ks.length c] 24)) wr) (fun _ i _ => ks.length - (intOf i).toNat)
      case atStart => exact ⟨1, 0, rfl, rfl, by omega, by omega, by omega, rfl, Below.refl _ _⟩
      case round =>
        obtain ⟨nn, j, rfl, rfl, hj, hn1, hn2, hws, hbel⟩ := hrel
        have hB := below_of_box hbel
        have hsz : w.heap.size + 1 ≤ wr.heap.size := by simpa using hbel.size
        have hc2 : wr.cell? ⟨w.heap.size, 2, none⟩ = some (.slice a ks.length c) := by rw [box_cell hbel 2 (by simp)]; rfl
        by_cases hlt : j < ks.length
        · by_cases hnm : nn ≤ most
          · obtain ⟨b, o, r1, i1, l1, v1, rfl, _, hbs, hj1, e0, e1, e2, hr1, hi1, hk1⟩ := (HR.out.kept hB).at j hlt
            have hdrop : ks.drop j = .node r1 i1 l1 :: ks.drop (j + 1) := by
              rw [List.drop_eq_getElem_cons hlt]
              congr 1
              rw [List.getElem?_eq_getElem hlt] at hj1
              exact Option.some.inj hj1
            rw [hdrop, weighs, if_pos hnm] at hws
            have hwi := weigh_in (.node r1 i1 l1) (most - nn) (deep - 1) (by omega)
            have hlt1 := DT.lt hj1 r i
            have HS := Lib.hid (And.intro hws (And.intro hk1 (And.intro hr1 hi1)))
            have HB := Lib.hid (And.intro hbel hB)
            clear hws hk1 hr1 hi1 hj1 hdrop hbel hB
            go_wp2_with fail
            refine (ih r1 i1 l1 v1 (most - nn) (deep - 1) _ (by omega) HS.out.2.1 (by omega) (by omega) (by omega) (by omega)).mono ?_
            rintro e w2 ⟨rfl, hb2⟩
            have HB2 := Lib.hid hb2
            clear hb2
            go_wp2
            go_round
            case rel => exact ⟨_, j + 1, rfl, by go_num, by omega, by omega, by omega, HS.out.1, HB.out.1.trans (HB2.out.mono hsz)⟩
            case measure => simp [intOf]; omega
          · have hfin : weighs ks most deep 1 = nn := by
              rw [← hws, List.drop_eq_getElem_cons hlt, weighs, if_neg hnm]
            have HF := Lib.hid (And.intro hfin hB)
            clear hws hfin hbel hB
            go_wp2
            go_ret
            exact ⟨by rw [HW.out, HF.out.1]; rfl, HF.out.2⟩
        · have hjl : j = ks.length := by omega
          subst hjl
          have hfin : weighs ks most deep 1 = nn := by rw [← hws, List.drop_length, weighs]
          have HF := Lib.hid (And.intro hfin hB)
          clear hws hfin hbel hB
          go_wp2
          go_ret
          exact ⟨by rw [HW.out, HF.out.1]; rfl, HF.out.2⟩
end Go.Proofs.YtfpiogaakblpeaaDoor
