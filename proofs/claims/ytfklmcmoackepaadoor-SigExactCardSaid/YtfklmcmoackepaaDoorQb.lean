/- Walk of the page's list: the kind of a list's word. A term that the page's reader is reading: its block, the row of its kids, the names that are bound. What the page's reader reads: how the parts of a list's body join, on lists. Its Want in either mode. -/
import Derived.Test.YtfklmcmoackepaaDoorQn
import Derived.Test.YtfklmcmoackepaaDoorRw
import Derived.Test.YtfklmcmoackepaaDoorSk3
import Derived.Test.YtfklmcmoackepaaDoorRt
import Derived.Test.YtfklmcmoackepaaDoorRm
namespace Go.Proofs.YtfklmcmoackepaaDoor
open Go.RowKit

/-- the kind of the list's word at a token, of the sort that is wanted; 0: there is none -/
def kindQ (E : REnv) (want k : Nat) : Nat := if kindAt E.l k = 3 then (if wrongM want (kindW (textAt E.l k)) = true then 0 else kindW (textAt E.l k)) else 0
theorem mark_idx : ∀ x, x < 23 → markWords.idxOf (markWords.getD x []) = x := by decide
theorem kindW_at {s : List UInt8} (hs : s ≠ []) {x : Nat} (hx : x < 23) (h : markWords.getD x [] = s) : kindW s = x + 1 := by
  have := mark_idx x hx
  rw [h] at this
  unfold kindW
  rw [if_neg hs, this, if_pos hx]
theorem kindW_back {s : List UInt8} {kd : Nat} (h : kindW s = kd + 1) : kd < 23 ∧ markWords.getD kd [] = s := by
  unfold kindW at h
  split at h
  · omega
  · split at h
    · rename_i h1
      have h2 : markWords.idxOf s = kd := by omega
      have hl : markWords.idxOf s < markWords.length := h1
      have h3 := List.getElem_idxOf hl
      refine ⟨by omega, ?_⟩
      rw [← h2, List.getD_eq_getElem?_getD, List.getElem?_eq_getElem hl, Option.getD_some]
      exact h3
    · omega

section
variable {E : REnv} {lv : Value} {b : Nat} {w : World} {nv : Value} {nm : List (List UInt8)}

theorem kindQ_marked {want k x : Nat} (hk : kindAt E.l k = 3) (hne : textAt E.l k ≠ []) (hx : x < 12) (h : markWords.getD x [] = textAt E.l k) (hw : want ≠ 2 ∨ x = 0) : kindQ E want k = x + 1 := by
  unfold kindQ
  rw [if_pos hk, kindW_at hne (by omega) h, if_neg]
  unfold wrongM
  simp only [Bool.or_eq_true, Bool.and_eq_true, beq_iff_eq, decide_eq_true_eq]
  omega
theorem kindQ_plain {want k y : Nat} (hk : kindAt E.l k = 3) (hne : textAt E.l k ≠ []) (hy : y < 11) (h : markWords.getD (y + 12) [] = textAt E.l k) (hw : want ≠ 1) : kindQ E want k = 13 + y := by
  unfold kindQ
  rw [if_pos hk, kindW_at hne (by omega) h, if_neg]
  · omega
  unfold wrongM
  simp only [Bool.or_eq_true, Bool.and_eq_true, beq_iff_eq, decide_eq_true_eq]
  omega
theorem kindQ_none {want k : Nat} (hk : kindAt E.l k = 3) (h1 : ∀ x, x < 12 → markWords.getD x [] = textAt E.l k → want = 2 ∧ x ≠ 0) (h2 : ∀ y, y < 11 → markWords.getD (y + 12) [] = textAt E.l k → want = 1) : kindQ E want k = 0 := by
  unfold kindQ
  rw [if_pos hk, if_pos]
  have hne2 := kindW_ne2 (textAt E.l k)
  unfold wrongM
  simp only [Bool.or_eq_true, Bool.and_eq_true, beq_iff_eq, decide_eq_true_eq]
  cases hq : kindW (textAt E.l k) with
  | zero => exact .inl (.inl rfl)
  | succ kd =>
    obtain ⟨hlt, hm⟩ := kindW_back hq
    by_cases h12 : kd < 12
    · obtain ⟨a, c⟩ := h1 kd h12 hm
      exact .inr ⟨⟨a, by omega⟩, by omega⟩
    · have := h2 (kd - 12) (by omega) (by rw [show kd - 12 + 12 = kd by omega]; exact hm)
      exact .inl (.inr ⟨this, by omega⟩)

theorem qwordQ {k : Nat} (h : Rq E lv b w nv nm (.ok k)) (m n : Nat) : Calls Tryd.prog 37 #[.pointer (some ⟨b, 0, none⟩)] (w.drewN (m + n)) fun e w' => e = .returned (.string ⟨(textAt E.l k).toArray⟩) ∧ ∃ n', w' = w.drewN (m + n') :=
  (qword (h.drewN (m + n))).mono fun e w' ⟨he, x, hw⟩ => ⟨he, n + x, by rw [hw]; simp [Nat.add_assoc]⟩

set_option maxHeartbeats 4000000 in
set_option maxRecDepth 100000 in
theorem qlist_none (want : Int) {k : Nat} (hk : kindAt E.l k ≠ 3) (h : Rq E lv b w nv nm (.ok k)) :
    Calls Tryd.prog 38 #[.pointer (some ⟨b, 0, none⟩), .int .i64 want] w fun e w' => e = .returned (.int .i64 0) ∧ TurnQ E lv b w nv nm (.ok k) w' := by
  have HR0 := Lib.hid h
  have k3 : ((kindAt E.l k : Int) != 3) = true := by simp; omega
  obtain ⟨_, c0, c1, c2, c3, c4, c5⟩ := h.at
  clear h hk
  go_enter Tryd.func38, Tryd.ntmps38
  go_wp2_with fail
  refine (qkindT HR0.out).mono ?_
  rintro e w1 ⟨rfl, ht⟩
  have HT := Lib.hid ht
  clear ht c0 c1 c2 c3 c4 c5
  go_wp2
  go_ret
  exact ⟨rfl, HT.out⟩

set_option maxHeartbeats 4000000 in
set_option maxRecDepth 100000 in
theorem qlist_word (want : Nat) (_hw2 : want ≤ 2) {k : Nat} (hk : kindAt E.l k = 3) (hne : textAt E.l k ≠ []) (h : Rq E lv b w nv nm (.ok k)) :
    Calls Tryd.prog 38 #[.pointer (some ⟨b, 0, none⟩), .int .i64 want] w fun e w' => e = .returned (.int .i64 (kindQ E want k : Nat)) ∧ TurnQ E lv b w nv nm (.ok k) w' := by
  have HR0 := Lib.hid h
  have HK := Lib.hid hk
  have HNE := Lib.hid hne
  obtain ⟨_, c0, c1, c2, c3, c4, c5⟩ := h.at
  clear h hk hne
  go_enter Tryd.func38, Tryd.ntmps38
  go_wp2_with fail
  refine (qkindT HR0.out).mono ?_
  rintro e w1 ⟨rfl, ht⟩
  rw [HK.out]
  have HR1 := Lib.hid ht.1
  have HG1 := Lib.hid ht.2
  clear ht c0 c1 c2 c3 c4 c5
  go_wp2_with fail
  refine (rmarkedL_any _).mono ?_
  rintro e w2 ⟨rfl, hb2, hc2⟩
  have HR2 := Lib.hid (HR1.out.kept hb2)
  have HG2 := Lib.hid (grown_trans HG1.out (grown_below hb2))
  have HC2 := Lib.hid hc2
  obtain ⟨_, c0, c1, c2, c3, c4, c5⟩ := HR2.out.at
  clear hb2 hc2
  go_wp2_with fail
  go_loopw [6] (fun ix wr => ∃ (x m : Nat), ix = .int .i64 x ∧ x ≤ 12 ∧ wr = w2.drewN m ∧ (∀ y, y < x → markWords.getD y [] = textAt E.l k → want = 2 ∧ y ≠ 0)) (fun i _ => 12 - (intOf i).toNat)
  case atStart => exact ⟨0, 0, rfl, by omega, rfl, fun y hy => absurd hy (by omega)⟩
  case round =>
    obtain ⟨x, m, rfl, hx, rfl, hno⟩ := hrel
    have HNO := Lib.hid hno
    clear hno
    by_cases hlt : x < 12
    · have hcell := HC2.out x hlt
      rw [Nat.add_zero] at hcell
      have x1 : ¬ (12 ≤ x) := by omega
      have x2 : ¬ (12 ≤ (x : Int)) := by omega
      have x3 : (x : Int) < 12 := by omega
      have x4 : IntKind.i64.wrap (x : Int) = (x : Int) := by rw [IntKind.wrap_i64]; omega
      by_cases he : markWords.getD x [] = textAt E.l k
      · have hb2 : (markWords.getD x [] == textAt E.l k) = true := by rw [he]; exact beq_self_eq_true _
        by_cases hww : want = 2
        · have w2' : ((want : Int) != 2) = false := by simp [hww]
          by_cases hx0 : x = 0
          · have HV : Hid (((kindQ E want k : Nat) : Int) = (x : Int) + 1) := Lib.hid (by rw [kindQ_marked HK.out HNE.out hlt he (.inr hx0)]; rfl)
            have x0' : ((x : Int) == 0) = true := by simp [hx0]
            clear he hx0
            generalize markWords.getD x [] = wd at hcell hb2
            go_wp2_with fail
            go_quiet ((go_at_call 37; exact qwordQ HR2.out _ _))
            go_wp2
            go_ret
            exact ⟨by rw [HV.out]; rfl, by simpa using HR2.out.drewN (m + nq), grown_drewN HG2.out _⟩
          · have x0' : ((x : Int) == 0) = false := by simp [hx0]
            have HNO2 : Hid (∀ y, y < x + 1 → markWords.getD y [] = textAt E.l k → want = 2 ∧ y ≠ 0) := Lib.hid (fun y hy hm => by
              rcases Nat.lt_or_ge y x with h1 | h1
              · exact HNO.out y h1 hm
              · exact ⟨hww, by omega⟩)
            clear he hx0 hww
            generalize markWords.getD x [] = wd at hcell hb2
            go_wp2_with fail
            go_quiet ((go_at_call 37; exact qwordQ HR2.out _ _))
            go_wp2
            go_roundw
            case rel => exact ⟨x + 1, m + nq, by go_num, by omega, by simp, HNO2.out⟩
            case measure => simp [intOf]; omega
        · have w2' : ((want : Int) != 2) = true := by simp; omega
          have HV : Hid (((kindQ E want k : Nat) : Int) = (x : Int) + 1) := Lib.hid (by rw [kindQ_marked HK.out HNE.out hlt he (.inl hww)]; rfl)
          clear he hww
          generalize markWords.getD x [] = wd at hcell hb2
          go_wp2_with fail
          go_quiet ((go_at_call 37; exact qwordQ HR2.out _ _))
          go_wp2
          go_ret
          exact ⟨by rw [HV.out]; rfl, by simpa using HR2.out.drewN (m + nq), grown_drewN HG2.out _⟩
      · have hb2 : (markWords.getD x [] == textAt E.l k) = false := beq_eq_false_iff_ne.2 he
        have HNO2 : Hid (∀ y, y < x + 1 → markWords.getD y [] = textAt E.l k → want = 2 ∧ y ≠ 0) := Lib.hid (fun y hy hm => by
          rcases Nat.lt_or_ge y x with h1 | h1
          · exact HNO.out y h1 hm
          · obtain rfl : y = x := by omega
            exact absurd hm he)
        clear he
        generalize markWords.getD x [] = wd at hcell hb2
        go_wp2_with fail
        go_quiet ((go_at_call 37; exact qwordQ HR2.out _ _))
        go_wp2
        go_roundw
        case rel => exact ⟨x + 1, m + nq, by go_num, by omega, by simp, HNO2.out⟩
        case measure => simp [intOf]; omega
    · obtain rfl : x = 12 := by omega
      have HNO2 := HNO
      clear hlt hx
      obtain ⟨w3, hw3⟩ : ∃ w3, w2.drewN m = w3 := ⟨_, rfl⟩
      have HR3 : Hid (Rq E lv b w3 nv nm (.ok k)) := Lib.hid (by rw [← hw3]; exact HR2.out.drewN m)
      have HG3 : Hid (w.grownBy w3 (some b)) := Lib.hid (by rw [← hw3]; exact grown_drewN HG2.out m)
      go_wp2_with fail
      clear hw3 c0 c1 c2 c3 c4 c5
      refine (rplainL_any _).mono ?_
      rintro e w4 ⟨rfl, hb4, hc4⟩
      have HR4 := Lib.hid (HR3.out.kept hb4)
      have HG4 := Lib.hid (grown_trans HG3.out (grown_below hb4))
      have HC4 := Lib.hid hc4
      obtain ⟨_, c0, c1, c2, c3, c4, c5⟩ := HR4.out.at
      clear hb4 hc4
      go_wp2_with fail
      go_loopw [7] (fun ix wr => ∃ (x m : Nat), ix = .int .i64 x ∧ x ≤ 11 ∧ wr = w4.drewN m ∧ (∀ y, y < x → markWords.getD (y + 12) [] = textAt E.l k → want = 1)) (fun i _ => 11 - (intOf i).toNat)
      case atStart => exact ⟨0, 0, rfl, by omega, rfl, fun y hy => absurd hy (by omega)⟩
      case round =>
        obtain ⟨x, m, rfl, hx, rfl, hno⟩ := hrel
        have HNO := Lib.hid hno
        clear hno
        by_cases hlt : x < 11
        · have hcell := HC4.out x hlt
          have x1 : ¬ (11 ≤ x) := by omega
          have x2 : ¬ (11 ≤ (x : Int)) := by omega
          have x3 : (x : Int) < 11 := by omega
          have x4 : IntKind.i64.wrap (x : Int) = (x : Int) := by rw [IntKind.wrap_i64]; omega
          by_cases he : markWords.getD (x + 12) [] = textAt E.l k
          · have hb2 : (markWords.getD (x + 12) [] == textAt E.l k) = true := by rw [he]; exact beq_self_eq_true _
            by_cases hww : want = 1
            · have w2' : ((want : Int) != 1) = false := by simp [hww]
              have HNO3 : Hid (∀ y, y < x + 1 → markWords.getD (y + 12) [] = textAt E.l k → want = 1) := Lib.hid (fun y hy hm => hww)
              clear he hww
              generalize markWords.getD (x + 12) [] = wd at hcell hb2
              go_wp2_with fail
              go_quiet ((go_at_call 37; exact qwordQ HR4.out _ _))
              go_wp2
              go_roundw
              case rel => exact ⟨x + 1, m + nq, by go_num, by omega, by simp, HNO3.out⟩
              case measure => simp [intOf]; omega
            · have w2' : ((want : Int) != 1) = true := by simp; omega
              have HV : Hid (((kindQ E want k : Nat) : Int) = 13 + (x : Int)) := Lib.hid (by rw [kindQ_plain HK.out HNE.out hlt he hww]; simp)
              clear he hww
              generalize markWords.getD (x + 12) [] = wd at hcell hb2
              go_wp2_with fail
              go_quiet ((go_at_call 37; exact qwordQ HR4.out _ _))
              go_wp2
              go_ret
              exact ⟨by rw [HV.out]; rfl, by simpa using HR4.out.drewN (m + nq), grown_drewN HG4.out _⟩
          · have hb2 : (markWords.getD (x + 12) [] == textAt E.l k) = false := beq_eq_false_iff_ne.2 he
            have HNO3 : Hid (∀ y, y < x + 1 → markWords.getD (y + 12) [] = textAt E.l k → want = 1) := Lib.hid (fun y hy hm => by
              rcases Nat.lt_or_ge y x with h1 | h1
              · exact HNO.out y h1 hm
              · obtain rfl : y = x := by omega
                exact absurd hm he)
            clear he
            generalize markWords.getD (x + 12) [] = wd at hcell hb2
            go_wp2_with fail
            go_quiet ((go_at_call 37; exact qwordQ HR4.out _ _))
            go_wp2
            go_roundw
            case rel => exact ⟨x + 1, m + nq, by go_num, by omega, by simp, HNO3.out⟩
            case measure => simp [intOf]; omega
        · obtain rfl : x = 11 := by omega
          have HV : Hid (kindQ E want k = 0) := Lib.hid (kindQ_none HK.out (fun x hx hm => HNO2.out x hx hm) (fun y hy hm => HNO.out y hy hm))
          clear hlt hx
          go_wp2
          go_ret
          exact ⟨by rw [HV.out]; rfl, by simpa using HR4.out.drewN m, grown_drewN HG4.out _⟩

theorem qlist_any (want : Nat) (hw2 : want ≤ 2) {k : Nat} (hne : kindAt E.l k = 3 → textAt E.l k ≠ []) (h : Rq E lv b w nv nm (.ok k)) :
    Calls Tryd.prog 38 #[.pointer (some ⟨b, 0, none⟩), .int .i64 want] w fun e w' => e = .returned (.int .i64 (kindQ E want k : Nat)) ∧ TurnQ E lv b w nv nm (.ok k) w' := by
  by_cases hk : kindAt E.l k = 3
  · exact qlist_word want hw2 hk (hne hk) h
  · rw [show kindQ E want k = 0 by unfold kindQ; rw [if_neg hk]]
    exact qlist_none want hk h
end
end Go.Proofs.YtfklmcmoackepaaDoor

namespace Go.Proofs.YtfklmcmoackepaaDoor
open Go.RowKit

/-- behind some of the kids: the reader's mode; the result's block, the term's block, the kids' row, the names bound -/
structure GQ (E : REnv) (lv : Value) (b : Nat) (w : World) (k0 i0 j0 n0 : Int) (nv : Value) (nm : List (List UInt8)) (m : Md) (bv : Value) (bnd : List (List UInt8)) (rows : List (TT × Value)) (v : Value) (wr : World) : Prop where
  old : b < w.heap.size
  lvs : ∀ x, lv.ownBlock = some x → x < w.heap.size
  nvs : ∀ x, nv.ownBlock = some x → x ≠ w.heap.size ∧ x ≠ w.heap.size + 1 ∧ some x ≠ v.ownBlock
  rq : Rq E lv b wr nv nm m
  gr : w.grownBy wr (some b)
  res : wr.heap[w.heap.size]? = some (.cells zero5 24 (0, 0))
  box : wr.heap[w.heap.size + 1]? = some (.cells #[.int .i64 k0, .int .i64 i0, .int .i64 j0, .int .i64 n0, .slice none 0 0] 24 (0, 0))
  own : wr.ownsRow (w.heap.size + 2) 24 5 v rows.length (kidCells rows)
  hasB : Has wr 1 bv bnd.length (textRow bnd)
  bfar : ∀ x, bv.ownBlock = some x → w.heap.size + 2 ≤ x ∧ some x ≠ v.ownBlock
  kids : m.isBad = false → ∀ p ∈ rows, RepTS wr (fun x => w.heap.size + 2 ≤ x ∧ some x ≠ v.ownBlock) p.1.kids p.2 ∧ p.1.in4

section
variable {E : REnv} {lv : Value} {b : Nat} {w : World} {k0 i0 j0 n0 : Int} {nv nv' : Value} {nm nm' : List (List UInt8)} {m m' : Md} {bv : Value} {bnd : List (List UInt8)} {rows : List (TT × Value)} {v : Value} {wr w6 : World}

theorem Rq.same {W W' : World} (h : Rq E lv b W nv nm m) (hsz : W.heap.size ≤ W'.heap.size) (hb : W'.heap[b]? = W.heap[b]?) (hl : ∀ x, lv.ownBlock = some x → W'.heap[x]? = W.heap[x]?) (hn : ∀ x, nv.ownBlock = some x → W'.heap[x]? = W.heap[x]?) : Rq E lv b W' nv nm m := by
  obtain ⟨kk, x, hc, hm⟩ := h.cells
  exact { h with cells := ⟨kk, x, by rw [hb]; exact hc, hm⟩, has := h.has.same hsz hl, hasN := h.hasN.same hsz hn }

theorem GQ.big (h : GQ E lv b w k0 i0 j0 n0 nv nm m bv bnd rows v wr) : w.heap.size + 2 ≤ wr.heap.size := (Array.getElem?_eq_some_iff.1 h.box).1

/-- the reader's block turns, and memory is made -/
theorem GQ.move (h : GQ E lv b w k0 i0 j0 n0 nv nm m bv bnd rows v wr) (hr : Rq E lv b w6 nv' nm' m') (g : wr.grownBy w6 (some b)) (hnv : nv' = nv ∨ ∀ x, nv'.ownBlock = some x → wr.heap.size ≤ x) (hm : m'.isBad = false → m.isBad = false) : GQ E lv b w k0 i0 j0 n0 nv' nm' m' bv bnd rows v w6 := by
  have hlt := h.old
  have hbig := h.big
  have hres := h.res
  have hbox := h.box
  refine { old := h.old, lvs := h.lvs, nvs := ?_, rq := hr, gr := grown_trans h.gr g, res := ?_, box := ?_, own := ?_, hasB := ?_, bfar := h.bfar, kids := ?_ }
  · rcases hnv with rfl | hnv
    · exact h.nvs
    · intro x hx
      have := hnv x hx
      exact ⟨by omega, by omega, fun he => by have := h.own.lt x he.symm; omega⟩
  · rw [g.block _ (by omega) (by simp; omega)]; exact hres
  · rw [g.block _ (by omega) (by simp; omega)]; exact hbox
  · exact h.own.kept g (.inr (fun he => by have := (h.own.lt b he).1; omega))
  · exact h.hasB.grown g (fun he => by have := (h.bfar b he).1; omega)
  · intro hb p hp
    obtain ⟨h1, h2⟩ := h.kids (hm hb) p hp
    exact ⟨h1.kept g.size fun x hx hxl => ⟨g.block x hxl (by simp; omega), hx⟩, h2⟩
theorem GQ.drewN (h : GQ E lv b w k0 i0 j0 n0 nv nm m bv bnd rows v wr) (n : Nat) : GQ E lv b w k0 i0 j0 n0 nv nm m bv bnd rows v (wr.drewN n) :=
  h.move (h.rq.drewN n) (grown_drewN (grown_refl _ _) n) (.inl rfl) id
theorem GQ.below (h : GQ E lv b w k0 i0 j0 n0 nv nm m bv bnd rows v wr) (hb : Below wr.heap.size wr w6) : GQ E lv b w k0 i0 j0 n0 nv nm m bv bnd rows v w6 :=
  h.move (h.rq.kept hb) (grown_below hb) (.inl rfl) id
theorem GQ.alloc (h : GQ E lv b w k0 i0 j0 n0 nv nm m bv bnd rows v wr) (o : Obj) : GQ E lv b w k0 i0 j0 n0 nv nm m bv bnd rows v (wr.alloc o) := h.below (below_alloc _ _)
theorem GQ.turn (h : GQ E lv b w k0 i0 j0 n0 nv nm m bv bnd rows v wr) (ht : TurnQ E lv b wr nv nm m' w6) (hm : m'.isBad = false → m.isBad = false) : GQ E lv b w k0 i0 j0 n0 nv nm m' bv bnd rows v w6 := h.move ht.1 ht.2 (.inl rfl) hm
theorem GQ.named (h : GQ E lv b w k0 i0 j0 n0 nv nm m bv bnd rows v wr) (ht : NamedQ E lv b wr nm' m w6) : ∃ nv', GQ E lv b w k0 i0 j0 n0 nv' nm' m bv bnd rows v w6 := by
  obtain ⟨nv', h1, h2, h3⟩ := ht
  exact ⟨nv', h.move h1 h2 (.inr h3) id⟩
/-- other names are bound -/
theorem GQ.bound (h : GQ E lv b w k0 i0 j0 n0 nv nm m bv bnd rows v wr) {bv' : Value} {bnd' : List (List UInt8)} (hB : Has wr 1 bv' bnd'.length (textRow bnd')) (hf : ∀ x, bv'.ownBlock = some x → w.heap.size + 2 ≤ x ∧ some x ≠ v.ownBlock) : GQ E lv b w k0 i0 j0 n0 nv nm m bv' bnd' rows v wr :=
  { h with hasB := hB, bfar := hf }

/-- a kid more -/
theorem GQ.push {wa w7 : World} (hG : GQ E lv b w k0 i0 j0 n0 nv nm m bv bnd rows v wa) {B : Nat} (hB : ∀ x, v.ownBlock = some x → x < B) (hDB : w.heap.size + 2 ≤ B)
    {t : TT} {v1 : Value} (hrep : m.isBad = false → RepTS wa (fun x => B ≤ x) t.kids v1 ∧ t.in4) {g cap : Nat} (hgrow7 : wa.grownBy w7 v.ownBlock) (hat : v.ownBlock = some g ∨ g = wa.heap.size)
    (hown7 : w7.ownsRow (w.heap.size + 2) 24 5 (.slice (some ⟨g, 0, none⟩) (rows.length + 1) cap) (rows.length + 1) (kidCells rows ++ [.int .i64 t.kd, .int .i64 t.ni, .int .i64 t.nj, .int .i64 t.nn, v1])) :
    GQ E lv b w k0 i0 j0 n0 nv nm m bv bnd (rows ++ [(t, v1)]) (.slice (some ⟨g, 0, none⟩) (rows.length + 1) cap) w7 := by
  have hlt := hG.old
  have hbig := hG.big
  have hs7 := hgrow7.size
  have hvlt := fun x hx => hG.own.lt x hx
  have hx : ∀ x, x < wa.heap.size → some x ≠ v.ownBlock → w7.heap[x]? = wa.heap[x]? := fun x h1 h3 => hgrow7.block x h1 h3
  have hlow : ∀ x, x < w.heap.size + 2 → w7.heap[x]? = wa.heap[x]? := fun x hl => hx x (by omega) (fun he => by have := hvlt x he.symm; omega)
  have hnvl := hG.rq.hasN.own_lt
  have hbvl := hG.hasB.own_lt
  have hother : ∀ x, x < wa.heap.size → some x ≠ v.ownBlock → some x ≠ (Value.slice (some ⟨g, 0, none⟩) (rows.length + 1) cap).ownBlock := fun x hxl h3 => by
    simp only [Value.ownBlock]
    rcases hat with h | h
    · rw [← h]; exact h3
    · simp; omega
  refine { old := hlt, lvs := hG.lvs, nvs := ?_, rq := ?_, gr := ?_, res := ?_, box := ?_, own := ?_, hasB := ?_, bfar := ?_, kids := ?_ }
  · intro x hxn
    exact ⟨(hG.nvs x hxn).1, (hG.nvs x hxn).2.1, hother x (hnvl x hxn) (hG.nvs x hxn).2.2⟩
  · exact hG.rq.same hs7 (hlow b (by omega)) (fun x hxl => hlow x (by have := hG.lvs x hxl; omega)) (fun x hxn => hx x (hnvl x hxn) (hG.nvs x hxn).2.2)
  · have g := hG.gr
    exact ⟨hgrow7.os.trans g.os, hgrow7.tape.trans g.tape, hgrow7.output.trans g.output, Nat.le_trans g.size hs7, fun x hl hn => (hlow x (by omega)).trans (g.block x hl hn)⟩
  · rw [hlow _ (by omega)]; exact hG.res
  · rw [hlow _ (by omega)]; exact hG.box
  · simpa [kidCells_append, kidCells] using hown7
  · exact hG.hasB.same hs7 (fun x hxb => hx x (hbvl x hxb) (hG.bfar x hxb).2)
  · intro x hxb
    exact ⟨(hG.bfar x hxb).1, hother x (hbvl x hxb) (hG.bfar x hxb).2⟩
  · intro hm p hp
    rcases List.mem_append.1 hp with hp | hp
    · obtain ⟨h1, h2⟩ := hG.kids hm p hp
      exact ⟨h1.kept (by omega) fun x hx1 hxl => ⟨hx x hxl hx1.2, hx1.1, hother x hxl hx1.2⟩, h2⟩
    · obtain rfl : p = (t, v1) := by simpa using hp
      obtain ⟨h1, h2⟩ := hrep hm
      exact ⟨h1.kept (by omega) fun x hx1 hxl => ⟨hx x hxl (fun he => by have := hB x he.symm; omega), by omega, hother x hxl (fun he => by have := hB x he.symm; omega)⟩, h2⟩

/-- the term's block alone turns -/
theorem GQ.setbox (h : GQ E lv b w k0 i0 j0 n0 nv nm m bv bnd rows v wr) (off : Nat) (u : Value) {k1 i1 j1 n1 : Int} (hc : (#[.int .i64 k0, .int .i64 i0, .int .i64 j0, .int .i64 n0, .slice none 0 0] : Array Value).setIfInBounds off u = #[.int .i64 k1, .int .i64 i1, .int .i64 j1, .int .i64 n1, .slice none 0 0]) :
    GQ E lv b w k1 i1 j1 n1 nv nm m bv bnd rows v (wr.setCell ⟨w.heap.size + 1, off, none⟩ u) := by
  have hlt := h.old
  have hbig := h.big
  have g1 : wr.grownBy (wr.setCell ⟨w.heap.size + 1, off, none⟩ u) (some (w.heap.size + 1)) := grown_set (grown_refl _ _) off u
  have hx : ∀ x, x ≠ w.heap.size + 1 → (wr.setCell ⟨w.heap.size + 1, off, none⟩ u).heap[x]? = wr.heap[x]? := fun x hx => Below.heap_setCell _ _ _ _ hx
  refine { old := hlt, lvs := h.lvs, nvs := h.nvs, rq := ?_, gr := ?_, res := ?_, box := ?_, own := ?_, hasB := ?_, bfar := h.bfar, kids := ?_ }
  · exact h.rq.same g1.size (hx b (by omega)) (fun x hxl => hx x (by have := h.lvs x hxl; omega)) (fun x hxn => hx x (h.nvs x hxn).2.1)
  · have g := h.gr
    exact ⟨g1.os.trans g.os, g1.tape.trans g.tape, g1.output.trans g.output, Nat.le_trans g.size g1.size, fun x hl hn => (hx x (by omega)).trans (g.block x hl hn)⟩
  · rw [hx _ (by omega)]; exact h.res
  · rw [set1_at h.box off u, hc]
  · exact h.own.kept g1 (.inr (fun he => by have := (h.own.lt _ he).1; omega))
  · exact h.hasB.grown g1 (fun he => by have := (h.bfar _ he).1; omega)
  · intro hm p hp
    obtain ⟨h1, h2⟩ := h.kids hm p hp
    exact ⟨h1.kept g1.size fun x hx1 hxl => ⟨hx x (by omega), hx1⟩, h2⟩

/-- what a call of the page's Term ends in -/
def TermQPost (E : REnv) (lv : Value) (b : Nat) (w : World) (nv : Value) (nm : List (List UInt8)) (r : RR TT) (e : Ending) (w' : World) : Prop :=
  ∃ (t : TT) (a : Option Addr) (l c : Nat) (nv' : Value), e = .returned (termV t.kd t.ni t.nj t.nn (.slice a l c)) ∧ Rq E lv b w' nv' nm r.md ∧ w.grownBy w' (some b) ∧ (nv' = nv ∨ ∀ x, nv'.ownBlock = some x → w.heap.size ≤ x) ∧ (∀ t' k', r = .ok t' k' → t' = t ∧ RepTS w' (fun x => w.heap.size ≤ x) t.kids (.slice a l c) ∧ t.in4)
/-- its contract, in either mode -/
def TermQC (E : REnv) (lv : Value) (b : Nat) (fuel : Nat) : Prop :=
  ∀ (nv : Value) (nm : List (List UInt8)) (m : Md) (want : Nat) (w : World), Rq E lv b w nv nm m → (∀ k, m = .ok k → E.l.length < k + fuel ∧ nm.length + E.l.length ≤ 2199023255552 + k) → want ≤ 2 →
    Calls Tryd.prog 23 #[.pointer (some ⟨b, 0, none⟩), .int .i64 want] w (TermQPost E lv b w nv nm (m.go (termM E fuel nm want)))

/-- the result laid into its block: the blocks -/
theorem GQ.final (h : GQ E lv b w k0 i0 j0 n0 nv nm m bv bnd rows v wr) (a c d e : Value) {W : World} (hW : set5 (wr.setCell ⟨w.heap.size + 1, 4, none⟩ v) w.heap.size a c d e v = W) :
    W.heap[w.heap.size]? = some (.cells #[a, c, d, e, v] 24 (0, 0)) ∧ Rq E lv b W nv nm m ∧ w.grownBy W (some b) ∧ (m.isBad = false → RepTS W (fun x => w.heap.size ≤ x) (rows.map Prod.fst) v) := by
  subst hW
  have hlt := h.old
  have hbig := h.big
  have g1 : wr.grownBy (wr.setCell ⟨w.heap.size + 1, 4, none⟩ v) (some (w.heap.size + 1)) := grown_set (grown_refl _ _) 4 v
  have g5 := set5_grown (wr.setCell ⟨w.heap.size + 1, 4, none⟩ v) w.heap.size a c d e v
  have hsz : (set5 (wr.setCell ⟨w.heap.size + 1, 4, none⟩ v) w.heap.size a c d e v).heap.size = wr.heap.size := (set5_size _ _ _ _ _ _ _).trans (by simp [World.setCell])
  have hx : ∀ x, x ≠ w.heap.size → x ≠ w.heap.size + 1 → (set5 (wr.setCell ⟨w.heap.size + 1, 4, none⟩ v) w.heap.size a c d e v).heap[x]? = wr.heap[x]? := fun x h1 h2 => (set5_other _ _ _ _ _ _ _ h1).trans (Below.heap_setCell _ _ _ _ h2)
  refine ⟨set5_at ((Below.heap_setCell _ _ _ _ (show w.heap.size ≠ w.heap.size + 1 by omega)).trans h.res) a c d e v, ?_, ?_, fun hm => ?_⟩
  · exact h.rq.same (by omega) (hx b (by omega) (by omega)) (fun x hxl => hx x (by have := h.lvs x hxl; omega) (by have := h.lvs x hxl; omega)) (fun x hxn => hx x (h.nvs x hxn).1 (h.nvs x hxn).2.1)
  · have g := h.gr
    exact ⟨(g5.os.trans g1.os).trans g.os, (g5.tape.trans g1.tape).trans g.tape, (g5.output.trans g1.output).trans g.output, by have := g.size; omega, fun x hl hn => (hx x (by omega) (by omega)).trans (g.block x hl hn)⟩
  · have hown1 := (h.own.kept g1 (.inr (fun he => by have := (h.own.lt _ he).1; omega))).kept g5 (.inr (fun he => by have := (h.own.lt _ he).1; omega))
    refine repTS_of_owns hown1 (fun g hg => by have := (h.own.lt g hg).1; omega) fun p hp => ?_
    obtain ⟨h1, h2⟩ := h.kids hm p hp
    exact ⟨h1.kept (by omega) fun x hx1 hxl => ⟨hx x (by omega) (by omega), by omega⟩, h2⟩
end
end Go.Proofs.YtfklmcmoackepaaDoor

namespace Go.Proofs.YtfklmcmoackepaaDoor
open Go.RowKit

def shutTok (E : REnv) (k : Nat) : RR Unit := if kindAt E.l k = 2 then .ok () (k + 1) else .bad k
theorem closeM_shut (E : REnv) (kd n i j : Nat) (ks : List TT) (k : Nat) : closeM E kd n i j ks k = (shutTok E k).bind fun _ k' => .ok (.node kd i j n ks) k' := by
  unfold closeM shutTok
  split <;> rfl
/-- the name that is bound from the second kid on -/
def nmM (E : REnv) (kd k : Nat) : RR (List (List UInt8)) := if bindsK kd 1 = 1 then (wordM E k).bind fun s k2 => .ok [s] k2 else .ok [] k
theorem nmM_moves (E : REnv) (kd : Nat) {k : Nat} (h : k ≤ E.l.length) : Moves E.l 0 k (nmM E kd k) := by
  unfold nmM
  split
  · exact (wordM_moves E h).bind0 fun s k2 _ h2 => .ok _ h2
  · exact .ok _ h

section
variable {E : REnv} {lv : Value} {b : Nat} {w : World} {nv : Value} {nm : List (List UInt8)} {m : Md}

theorem qwant3 (h : Rq E lv b w nv nm m) : Calls Tryd.prog 21 #[.pointer (some ⟨b, 0, none⟩), .int .i64 3] w fun e w' => ∃ s : List UInt8, e = .returned (.string ⟨s.toArray⟩) ∧ TurnQ E lv b w nv nm (m.go (wordM E)).md w' ∧ ∀ s' k', m.go (wordM E) = .ok s' k' → s = s' := by
  cases m with
  | bad q => exact (qwant_bad 3 h).mono fun e w' ⟨he, ht⟩ => ⟨[], he, ht, fun s' k' hx => by cases hx⟩
  | ok k =>
    simp only [Md.go]
    by_cases hk : kindAt E.l k = 3
    · have e : wordM E k = .ok (textAt E.l k) (k + 1) := by unfold wordM; rw [if_pos hk]
      rw [e]
      exact (qwant_ok 3 (by decide) hk h).mono fun e w' ⟨he, ht⟩ => ⟨_, he, ht, fun s' k' hx => by cases hx; rfl⟩
    · have e : wordM E k = .bad k := by unfold wordM; rw [if_neg hk]
      rw [e]
      exact (qwant_miss 3 hk h).mono fun e w' ⟨he, ht⟩ => ⟨[], he, ht, fun s' k' hx => by cases hx⟩
theorem qwant2 (h : Rq E lv b w nv nm m) : Calls Tryd.prog 21 #[.pointer (some ⟨b, 0, none⟩), .int .i64 2] w fun e w' => ∃ s : List UInt8, e = .returned (.string ⟨s.toArray⟩) ∧ TurnQ E lv b w nv nm (m.go (shutTok E)).md w' := by
  cases m with
  | bad q => exact (qwant_bad 2 h).mono fun e w' ⟨he, ht⟩ => ⟨[], he, ht⟩
  | ok k =>
    simp only [Md.go]
    by_cases hk : kindAt E.l k = 2
    · have e : shutTok E k = .ok () (k + 1) := by unfold shutTok; rw [if_pos hk]
      rw [e]
      exact (qwant_ok 2 (by decide) hk h).mono fun e w' ⟨he, ht⟩ => ⟨_, he, ht⟩
    · have e : shutTok E k = .bad k := by unfold shutTok; rw [if_neg hk]
      rw [e]
      exact (qwant_miss 2 hk h).mono fun e w' ⟨he, ht⟩ => ⟨[], he, ht⟩
end

/-- the numbers behind a list's word, as they are laid -/
def HeadIs (E : REnv) (kd k n i j : Nat) : Prop := ∀ h k', headM E kd k = .ok h k' → h = (n, i, j)
section
variable {E : REnv} {kd k : Nat}
theorem head_none (h23 : kd ≠ 23) (hl : levelsK kd = 0) : (headM E kd k).md = .ok k ∧ HeadIs E kd k 0 0 0 := by
  have e : headM E kd k = .ok (0, 0, 0) k := by unfold headM; rw [if_neg h23, if_neg (by omega), if_neg (by omega)]
  unfold HeadIs
  rw [e]
  exact ⟨rfl, fun h k' hx => by cases hx; rfl⟩
theorem head_one (h23 : kd ≠ 23) (hl : levelsK kd = 1) {i : Nat} (hi : ∀ a k', levM E k = .ok a k' → i = a) : (headM E kd k).md = (levM E k).md ∧ HeadIs E kd k 0 i 0 := by
  have e : headM E kd k = (levM E k).bind fun i k1 => .ok (0, i, 0) k1 := by unfold headM; rw [if_neg h23, if_neg (by omega), if_pos hl]
  unfold HeadIs
  rw [e]
  cases hq : levM E k with
  | bad q => exact ⟨rfl, fun h k' hx => by cases hx⟩
  | ok a k1 =>
    have := hi a k1 hq
    subst this
    exact ⟨rfl, fun h k' hx => by cases hx; rfl⟩
theorem head_two (h23 : kd ≠ 23) (hl : levelsK kd = 2) {i j : Nat} (hi : ∀ a k', levM E k = .ok a k' → i = a) (hj : ∀ a k', (levM E k).md.go (levM E) = .ok a k' → j = a) : (headM E kd k).md = ((levM E k).md.go (levM E)).md ∧ HeadIs E kd k 0 i j := by
  have e : headM E kd k = (levM E k).bind fun i k1 => (levM E k1).bind fun j k2 => .ok (0, i, j) k2 := by unfold headM; rw [if_neg h23, if_pos hl]
  unfold HeadIs
  rw [e]
  cases hq : levM E k with
  | bad q => exact ⟨rfl, fun h k' hx => by cases hx⟩
  | ok a k1 =>
    have := hi a k1 hq
    subst this
    rw [hq] at hj
    simp only [RR.md, Md.go, RR.bind_ok] at hj ⊢
    cases hq2 : levM E k1 with
    | bad q => exact ⟨rfl, fun h k' hx => by cases hx⟩
    | ok c k2 =>
      have := hj c k2 hq2
      subst this
      exact ⟨rfl, fun h k' hx => by cases hx; rfl⟩
theorem head_use (h3 : kindAt E.l k = 3) (hs : symI (textAt E.l k) ≠ 0) {i j : Nat} (hi : ∀ a k', levM E (k + 1) = .ok a k' → i = a) (hj : ∀ a k', (levM E (k + 1)).md.go (levM E) = .ok a k' → j = a) : (headM E 23 k).md = ((levM E (k + 1)).md.go (levM E)).md ∧ HeadIs E 23 k (symI (textAt E.l k)) i j := by
  have e : headM E 23 k = (levM E (k + 1)).bind fun i k1 => (levM E k1).bind fun j k2 => .ok (symI (textAt E.l k), i, j) k2 := by
    unfold headM symM wordM
    rw [if_pos rfl, if_pos h3]
    simp only [RR.bind_ok]
    rw [if_neg hs]
    rfl
  unfold HeadIs
  rw [e]
  cases hq : levM E (k + 1) with
  | bad q => exact ⟨rfl, fun h k' hx => by cases hx⟩
  | ok a k1 =>
    have := hi a k1 hq
    subst this
    rw [hq] at hj
    simp only [RR.md, Md.go, RR.bind_ok] at hj ⊢
    cases hq2 : levM E k1 with
    | bad q => exact ⟨rfl, fun h k' hx => by cases hx⟩
    | ok c k2 =>
      have := hj c k2 hq2
      subst this
      exact ⟨rfl, fun h k' hx => by cases hx; rfl⟩
theorem head_nouse (h : kindAt E.l k ≠ 3 ∨ symI (textAt E.l k) = 0) : headM E 23 k = .bad k := by
  unfold headM symM wordM
  rw [if_pos rfl]
  by_cases h3 : kindAt E.l k = 3
  · rw [if_pos h3]
    simp only [RR.bind_ok]
    rw [if_pos (by omega)]
    rfl
  · rw [if_neg h3]; rfl

def BndOK (kd : Nat) (bnd : List (List UInt8)) : Prop := bnd.length ≤ 2 ∧ (kd ≠ 22 → ∀ y : Nat, 0 < bindsK kd y → bindsK kd y = bnd.length)
theorem binds_one {kd y : Nat} (h : kd ≠ 22) (hp : 0 < bindsK kd y) : bindsK kd y = 1 ∧ bindsK kd 1 = 1 := by
  unfold bindsK at *
  repeat' split at hp
  all_goals first | omega | (constructor <;> (repeat' split) <;> omega)
theorem binds_22_1 {kd : Nat} (h : kd = 22) : bindsK kd 1 ≠ 1 := by subst h; decide
theorem nm_yes (h1 : bindsK kd 1 = 1) (m : Md) {s : List UInt8} (hs : ∀ s' k', m.go (wordM E) = .ok s' k' → s = s') : (m.go (nmM E kd)).md = (m.go (wordM E)).md ∧ ∀ s' k', m.go (nmM E kd) = .ok s' k' → [s] = s' := by
  cases m with
  | bad q => exact ⟨rfl, fun s' k' h => by cases h⟩
  | ok k =>
    simp only [Md.go] at hs ⊢
    unfold nmM
    rw [if_pos h1]
    cases hq : wordM E k with
    | bad q => exact ⟨rfl, fun s' k' h => by cases h⟩
    | ok a k1 =>
      have := hs a k1 hq
      subst this
      exact ⟨rfl, fun s' k' h => by cases h; rfl⟩
theorem nm_no (h1 : bindsK kd 1 ≠ 1) (m : Md) : (m.go (nmM E kd)).md = m ∧ ∀ s' k', m.go (nmM E kd) = .ok s' k' → [] = s' := by
  cases m with
  | bad q => exact ⟨rfl, fun s' k' h => by cases h⟩
  | ok k =>
    simp only [Md.go]
    unfold nmM
    rw [if_neg h1]
    exact ⟨rfl, fun s' k' h => by cases h; rfl⟩
theorem bind_yes {x : Nat} (h : kd = 22 ∧ x = 2) (nm : List (List UInt8)) (m : Md) {y z : List UInt8} (hy : ∀ s' k', m.go (wordM E) = .ok s' k' → y = s') (hz : ∀ s' k', (m.go (wordM E)).md.go (wordM E) = .ok s' k' → z = s') :
    (m.go (bindM E kd x nm)).md = ((m.go (wordM E)).md.go (wordM E)).md ∧ ∀ s' k', m.go (bindM E kd x nm) = .ok s' k' → [y, z] = s' := by
  cases m with
  | bad q => exact ⟨rfl, fun s' k' h => by cases h⟩
  | ok k =>
    simp only [Md.go] at hy ⊢
    unfold bindM
    rw [if_pos h]
    cases hq : wordM E k with
    | bad q => exact ⟨rfl, fun s' k' h => by cases h⟩
    | ok a k1 =>
      have := hy a k1 hq
      subst this
      simp only [Md.go, hq, RR.md, RR.bind_ok] at hz ⊢
      cases hq2 : wordM E k1 with
      | bad q => exact ⟨rfl, fun s' k' h => by cases h⟩
      | ok c k2 =>
        have := hz c k2 hq2
        subst this
        exact ⟨rfl, fun s' k' h => by cases h; rfl⟩
theorem bind_no {x : Nat} (h : ¬ (kd = 22 ∧ x = 2)) (nm : List (List UInt8)) (m : Md) : (m.go (bindM E kd x nm)).md = m ∧ ∀ s' k', m.go (bindM E kd x nm) = .ok s' k' → nm = s' := by
  cases m with
  | bad q => exact ⟨rfl, fun s' k' h => by cases h⟩
  | ok k =>
    simp only [Md.go]
    unfold bindM
    rw [if_neg h]
    exact ⟨rfl, fun s' k' h => by cases h; rfl⟩

/-- behind x of the kids -/
def KidRel (E : REnv) (F : List (List UInt8) → Nat → Nat → RR TT) (outer : List (List UInt8)) (kd c k0 : Nat) (r : RR (List TT)) (x : Nat) (bnd : List (List UInt8)) (rows : List (TT × Value)) : Md → Prop
  | .ok k1 => kidsM E F outer kd (c - x) x bnd (rows.map Prod.fst) k1 = r ∧ k0 ≤ k1
  | .bad q => r = .bad q
variable {F : List (List UInt8) → Nat → Nat → RR TT} {outer bnd bnd' : List (List UInt8)} {c k0 x : Nat} {r : RR (List TT)} {rows : List (TT × Value)} {m : Md}
theorem kid_fuel (h : KidRel E F outer kd c k0 r x bnd rows m) (hle : ∀ k1, m = .ok k1 → k1 ≤ E.l.length) {k1 : Nat} (h1 : (m.go (bindM E kd x bnd)).md = .ok k1) : k0 ≤ k1 := by
  cases m with
  | bad q => cases h1
  | ok q =>
    have hm := bindM_moves E kd x bnd (hle q rfl)
    simp only [Md.go] at h1
    cases hq : bindM E kd x bnd q with
    | bad z => rw [hq] at h1; cases h1
    | ok a z =>
      rw [hq] at h1 hm
      simp only [RR.md, Md.ok.injEq] at h1
      simp only [Moves] at hm
      have := h.2
      omega
theorem kid_step (h : KidRel E F outer kd c k0 r x bnd rows m) (hx : x < c) (hmv : ∀ nm want k, k ≤ E.l.length → Moves E.l 1 k (F nm want k)) (hle : ∀ k1, m = .ok k1 → k1 ≤ E.l.length)
    (hb : ∀ s' k', m.go (bindM E kd x bnd) = .ok s' k' → bnd' = s') {t : TT} {v1 : Value}
    (ht : ∀ t' k', (m.go (bindM E kd x bnd)).md.go (F (if 0 < bindsK kd x then outer ++ bnd' else outer) (ofK kd x).toNat) = .ok t' k' → t' = t) :
    KidRel E F outer kd c k0 r (x + 1) bnd' (rows ++ [(t, v1)]) ((m.go (bindM E kd x bnd)).md.go (F (if 0 < bindsK kd x then outer ++ bnd' else outer) (ofK kd x).toNat)).md := by
  cases m with
  | bad q => exact h
  | ok q =>
    have hm := bindM_moves E kd x bnd (hle q rfl)
    obtain ⟨h1, h2⟩ := h
    rw [show c - x = (c - (x + 1)) + 1 by omega] at h1
    simp only [kidsM] at h1
    simp only [Md.go] at hb ht ⊢
    cases hq : bindM E kd x bnd q with
    | bad z =>
      rw [hq] at h1
      exact h1.symm
    | ok a z =>
      rw [hq] at h1 hm ht
      have := hb a z hq
      subst this
      simp only [Moves] at hm
      simp only [RR.md, RR.bind_ok] at h1 ht ⊢
      have hm2 := hmv (if 0 < bindsK kd x then outer ++ bnd' else outer) (ofK kd x).toNat z hm.2
      cases hq2 : F (if 0 < bindsK kd x then outer ++ bnd' else outer) (ofK kd x).toNat z with
      | bad y =>
        rw [hq2] at h1
        exact h1.symm
      | ok t' y =>
        rw [hq2] at h1 hm2
        have := ht t' y hq2
        subst this
        simp only [Moves] at hm2
        refine ⟨?_, by omega⟩
        rw [← h1]
        simp [RR.bind_ok]
theorem kid_end (h : KidRel E F outer kd c k0 r c bnd rows m) : m = r.md ∧ ∀ ks k', r = .ok ks k' → ks = rows.map Prod.fst := by
  cases m with
  | bad q =>
    have h : r = .bad q := h
    rw [h]
    exact ⟨rfl, fun ks k' h => by cases h⟩
  | ok q =>
    have h1 := h.1
    rw [Nat.sub_self] at h1
    simp only [kidsM] at h1
    rw [← h1]
    exact ⟨rfl, fun ks k' h => by cases h; rfl⟩

/-- the parts of a body joined -/
theorem body_join {n i j : Nat} (hh : HeadIs E kd k n i j) (hb : ∀ s' k', (headM E kd k).md.go (nmM E kd) = .ok s' k' → bnd = s') (hr : r = ((headM E kd k).md.go (nmM E kd)).md.go (kidsM E F outer kd (kidsK kd n).toNat 0 bnd []))
    {t : TT} (ht : ∀ ks k', r = .ok ks k' → t = .node kd i j n ks) : (r.md.go (shutTok E)).md = (bodyM E F outer kd k).md ∧ ∀ t' k', bodyM E F outer kd k = .ok t' k' → t' = t ∧ ∃ ks q, r = .ok ks q := by
  have e : bodyM E F outer kd k = (headM E kd k).bind fun h k1 => (nmM E kd k1).bind fun nm k2 => (kidsM E F outer kd (kidsK kd h.1).toNat 0 nm [] k2).bind fun ks k3 => closeM E kd h.1 h.2.1 h.2.2 ks k3 := rfl
  rw [e]
  cases hq : headM E kd k with
  | bad q =>
    rw [hq] at hr
    rw [hr]
    exact ⟨rfl, fun t' k' h => by cases h⟩
  | ok h k1 =>
    have := hh h k1 hq
    subst this
    rw [hq] at hr hb
    simp only [RR.md, Md.go, RR.bind_ok] at hr hb ⊢
    cases hq2 : nmM E kd k1 with
    | bad q =>
      rw [hq2] at hr
      rw [hr]
      exact ⟨rfl, fun t' k' h => by cases h⟩
    | ok a k2 =>
      have := hb a k2 hq2
      subst this
      rw [hq2] at hr
      simp only [RR.bind_ok] at hr ⊢
      rw [← hr]
      cases r with
      | bad q => exact ⟨rfl, fun t' k' h => by cases h⟩
      | ok ks k3 =>
        have := ht ks k3 rfl
        simp only [RR.bind_ok]
        rw [closeM_shut]
        cases hq4 : shutTok E k3 with
        | bad q => exact ⟨rfl, fun t' k' h => by cases h⟩
        | ok u k4 => exact ⟨rfl, fun t' k' h => by cases h; exact ⟨this.symm, ks, k3, rfl⟩⟩
end
/-- the names are those at the call, or lie in a block that is new -/
def NvOK (w : World) (nv0 nv : Value) : Prop := nv = nv0 ∨ ∀ x, nv.ownBlock = some x → w.heap.size ≤ x
theorem NvOK.next {w w1 : World} {nv0 nv nv' : Value} (h : NvOK w nv0 nv) (hs : w.heap.size ≤ w1.heap.size) (h1 : nv' = nv ∨ ∀ x, nv'.ownBlock = some x → w1.heap.size ≤ x) : NvOK w nv0 nv' := by
  rcases h1 with rfl | h1
  · exact h
  · exact .inr fun x hx => Nat.le_trans hs (h1 x hx)

/-- five cells laid anew in the result's block -/
theorem set5Q {E : REnv} {lv : Value} {b : Nat} {w W W' : World} {nv nv0 : Value} {nm nm0 : List (List UInt8)} {m m0 : Md} (h0 : Rq E lv b w nv0 nm0 m0) (hr : Rq E lv b W nv nm m) (g : w.grownBy W (some b))
    (hres : W.heap[w.heap.size]? = some (.cells #[.int .i64 0, .int .i64 0, .int .i64 0, .int .i64 0, .slice none 0 0] 24 (0, 0))) (hnv : ∀ x, nv.ownBlock = some x → x ≠ w.heap.size) (a c d e f : Value) (hW : set5 W w.heap.size a c d e f = W') :
    W'.heap[w.heap.size]? = some (.cells #[a, c, d, e, f] 24 (0, 0)) ∧ Rq E lv b W' nv nm m ∧ w.grownBy W' (some b) := by
  subst hW
  have hlt := h0.lt
  have g5 := set5_grown W w.heap.size a c d e f
  have hsz := set5_size W w.heap.size a c d e f
  have hx : ∀ x, x ≠ w.heap.size → (set5 W w.heap.size a c d e f).heap[x]? = W.heap[x]? := fun x h1 => set5_other _ _ _ _ _ _ _ h1
  refine ⟨set5_at hres a c d e f, ?_, ?_⟩
  · exact hr.same (by omega) (hx b (by omega)) (fun x hxl => hx x (by have := h0.has.own_lt x hxl; omega)) (fun x hxn => hx x (hnv x hxn))
  · exact ⟨g5.os.trans g.os, g5.tape.trans g.tape, g5.output.trans g.output, by have := g.size; omega, fun x hl hn => (hx x (by omega)).trans (g.block x hl hn)⟩
/-- names of the reader's that lie in a slice of their own -/
theorem GQ.newnames {E : REnv} {lv : Value} {b : Nat} {w : World} {k0 i0 j0 n0 : Int} {nv : Value} {nm : List (List UInt8)} {m : Md} {bv : Value} {bnd : List (List UInt8)} {rows : List (TT × Value)} {v : Value} {wr : World} (h : GQ E lv b w k0 i0 j0 n0 nv nm m bv bnd rows v wr) (l : List (List UInt8)) (hl : l.length ≤ maxLen) (cs : Array Value) (hcs : cs = (textRow l).toArray) :
    GQ E lv b w k0 i0 j0 n0 nv nm m (.slice (some ⟨wr.heap.size, 0, none⟩) l.length l.length) l rows v (wr.alloc (.cells cs 9)) := by
  subst hcs
  refine (h.alloc _).bound ?_ ?_
  · have := World.ownsRow_lit (base := wr.heap.size) (e := 9) (size := 1) wr (textRow l).toArray l.length (Nat.le_refl _) hl (by simp [textRow])
    simpa using Has.of_owns this
  · intro x hx
    simp only [Value.ownBlock, Option.some.injEq] at hx
    subst hx
    exact ⟨h.big, fun he => by have := h.own.lt _ he.symm; omega⟩
theorem in4_of {k i j n : Int} {l : List TT} (h1 : In64 k) (h2 : In64 i) (h3 : In64 j) (h4 : In64 n) : (TT.node k i j n l).in4 := ⟨h1, h2, h3, h4⟩
theorem kidsK_le (k n : Int) : kidsK k n ≤ 13 := by
  have := takesK_le n
  unfold kidsK
  repeat' split
  all_goals omega
end Go.Proofs.YtfklmcmoackepaaDoor
