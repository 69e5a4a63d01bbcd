/- Walk of the page's list: the kind of a list's word. -/
import Derived.Test.YtefjgpahgffmfaaDoorQn
import Derived.Test.YtefjgpahgffmfaaDoorRw
namespace Go.Proofs.YtefjgpahgffmfaaDoor
open Go.RowKit

/-- the kind of the list's word at a token, of the sort that is wanted; 0: there is none -/
def kindQ (E : REnv) (want k : Nat) : Nat := if kindAt E.l k = 3 then (if wrongM want (kindW (textAt E.l k)) = true then 0 else kindW (textAt E.l k)) else 0
theorem mark_idx : ∀ x, x < 23 → markWords.idxOf (markWords.getD x []) = x := by decide
theorem kindW_at {s : List UInt8} (hs : s ≠ []) {x : Nat} (hx : x < 23) (h : markWords.getD x [] = s) : kindW s = x + 1 := by
  have := mark_idx x hx
  rw [h] at this
  unfold kindW
  rw [if_neg hs, this, if_pos hx]
theorem kindW_back {s : List UInt8} {kd : Nat} (h : kindW s = kd + 1) : kd < 23 ∧ markWords.getD kd [] = s := by
  unfold kindW at h
  split at h
  · omega
  · split at h
    · rename_i h1
      have h2 : markWords.idxOf s = kd := by omega
      have hl : markWords.idxOf s < markWords.length := h1
      have h3 := List.getElem_idxOf hl
      refine ⟨by omega, ?_⟩
      rw [← h2, List.getD_eq_getElem?_getD, List.getElem?_eq_getElem hl, Option.getD_some]
      exact h3
    · omega

section
variable {E : REnv} {lv : Value} {b : Nat} {w : World} {nv : Value} {nm : List (List UInt8)}

theorem kindQ_marked {want k x : Nat} (hk : kindAt E.l k = 3) (hne : textAt E.l k ≠ []) (hx : x < 12) (h : markWords.getD x [] = textAt E.l k) (hw : want ≠ 2 ∨ x = 0) : kindQ E want k = x + 1 := by
  unfold kindQ
  rw [if_pos hk, kindW_at hne (by omega) h, if_neg]
  unfold wrongM
  simp only [Bool.or_eq_true, Bool.and_eq_true, beq_iff_eq, decide_eq_true_eq]
  omega
theorem kindQ_plain {want k y : Nat} (hk : kindAt E.l k = 3) (hne : textAt E.l k ≠ []) (hy : y < 11) (h : markWords.getD (y + 12) [] = textAt E.l k) (hw : want ≠ 1) : kindQ E want k = 13 + y := by
  unfold kindQ
  rw [if_pos hk, kindW_at hne (by omega) h, if_neg]
  · omega
  unfold wrongM
  simp only [Bool.or_eq_true, Bool.and_eq_true, beq_iff_eq, decide_eq_true_eq]
  omega
theorem kindQ_none {want k : Nat} (hk : kindAt E.l k = 3) (h1 : ∀ x, x < 12 → markWords.getD x [] = textAt E.l k → want = 2 ∧ x ≠ 0) (h2 : ∀ y, y < 11 → markWords.getD (y + 12) [] = textAt E.l k → want = 1) : kindQ E want k = 0 := by
  unfold kindQ
  rw [if_pos hk, if_pos]
  have hne2 := kindW_ne2 (textAt E.l k)
  unfold wrongM
  simp only [Bool.or_eq_true, Bool.and_eq_true, beq_iff_eq, decide_eq_true_eq]
  cases hq : kindW (textAt E.l k) with
  | zero => exact .inl (.inl rfl)
  | succ kd =>
    obtain ⟨hlt, hm⟩ := kindW_back hq
    by_cases h12 : kd < 12
    · obtain ⟨a, c⟩ := h1 kd h12 hm
      exact .inr ⟨⟨a, by omega⟩, by omega⟩
    · have := h2 (kd - 12) (by omega) (by rw [show kd - 12 + 12 = kd by omega]; exact hm)
      exact .inl (.inr ⟨this, by omega⟩)

theorem qwordQ {k : Nat} (h : Rq E lv b w nv nm (.ok k)) (m n : Nat) : Calls Tryd.prog 73 #[.pointer (some ⟨b, 0, none⟩)] (w.drewN (m + n)) fun e w' => e = .returned (.string ⟨(textAt E.l k).toArray⟩) ∧ ∃ n', w' = w.drewN (m + n') :=
  (qword (h.drewN (m + n))).mono fun e w' ⟨he, x, hw⟩ => ⟨he, n + x, by rw [hw]; simp [Nat.add_assoc]⟩

set_option maxHeartbeats 4000000 in
set_option maxRecDepth 100000 in
theorem qlist_none (want : Int) {k : Nat} (hk : kindAt E.l k ≠ 3) (h : Rq E lv b w nv nm (.ok k)) :
    Calls Tryd.prog 76 #[.pointer (some ⟨b, 0, none⟩), .int .i64 want] w fun e w' => e = .returned (.int .i64 0) ∧ TurnQ E lv b w nv nm (.ok k) w' := by
  have HR0 := Lib.hid h
  have k3 : ((kindAt E.l k : Int) != 3) = true := by simp; omega
  obtain ⟨_, c0, c1, c2, c3, c4, c5⟩ := h.at
  clear h hk
  go_enter Tryd.func76, Tryd.ntmps76
  go_wp2_with fail
  refine (qkindT HR0.out).mono ?_
  rintro e w1 ⟨rfl, ht⟩
  have HT := Lib.hid ht
  clear ht c0 c1 c2 c3 c4 c5
  go_wp2
  go_ret
  exact ⟨rfl, HT.out⟩

set_option maxHeartbeats 4000000 in
set_option maxRecDepth 100000 in
theorem qlist_word (want : Nat) (_hw2 : want ≤ 2) {k : Nat} (hk : kindAt E.l k = 3) (hne : textAt E.l k ≠ []) (h : Rq E lv b w nv nm (.ok k)) :
    Calls Tryd.prog 76 #[.pointer (some ⟨b, 0, none⟩), .int .i64 want] w fun e w' => e = .returned (.int .i64 (kindQ E want k : Nat)) ∧ TurnQ E lv b w nv nm (.ok k) w' := by
  have HR0 := Lib.hid h
  have HK := Lib.hid hk
  have HNE := Lib.hid hne
  obtain ⟨_, c0, c1, c2, c3, c4, c5⟩ := h.at
  clear h hk hne
  go_enter Tryd.func76, Tryd.ntmps76
  go_wp2_with fail
  refine (qkindT HR0.out).mono ?_
  rintro e w1 ⟨rfl, ht⟩
  rw [HK.out]
  have HR1 := Lib.hid ht.1
  have HG1 := Lib.hid ht.2
  clear ht c0 c1 c2 c3 c4 c5
  go_wp2_with fail
  refine (rmarkedL_any _).mono ?_
  rintro e w2 ⟨rfl, hb2, hc2⟩
  have HR2 := Lib.hid (HR1.out.kept hb2)
  have HG2 := Lib.hid (grown_trans HG1.out (grown_below hb2))
  have HC2 := Lib.hid hc2
  obtain ⟨_, c0, c1, c2, c3, c4, c5⟩ := HR2.out.at
  clear hb2 hc2
  go_wp2_with fail
  go_loopw [6] (fun ix wr => ∃ (x m : Nat), ix = .int .i64 x ∧ x ≤ 12 ∧ wr = w2.drewN m ∧ (∀ y, y < x → markWords.getD y [] = textAt E.l k → want = 2 ∧ y ≠ 0)) (fun i _ => 12 - (intOf i).toNat)
  case atStart => exact ⟨0, 0, rfl, by omega, rfl, fun y hy => absurd hy (by omega)⟩
  case round =>
    obtain ⟨x, m, rfl, hx, rfl, hno⟩ := hrel
    have HNO := Lib.hid hno
    clear hno
    by_cases hlt : x < 12
    · have hcell := HC2.out x hlt
      rw [Nat.add_zero] at hcell
      have x1 : ¬ (12 ≤ x) := by omega
      have x2 : ¬ (12 ≤ (x : Int)) := by omega
      have x3 : (x : Int) < 12 := by omega
      have x4 : IntKind.i64.wrap (x : Int) = (x : Int) := by rw [IntKind.wrap_i64]; omega
      by_cases he : markWords.getD x [] = textAt E.l k
      · have hb2 : (markWords.getD x [] == textAt E.l k) = true := by rw [he]; exact beq_self_eq_true _
        by_cases hww : want = 2
        · have w2' : ((want : Int) != 2) = false := by simp [hww]
          by_cases hx0 : x = 0
          · have HV : Hid (((kindQ E want k : Nat) : Int) = (x : Int) + 1) := Lib.hid (by rw [kindQ_marked HK.out HNE.out hlt he (.inr hx0)]; rfl)
            have x0' : ((x : Int) == 0) = true := by simp [hx0]
            clear he hx0
            generalize markWords.getD x [] = wd at hcell hb2
            go_wp2_with fail
            go_quiet ((go_at_call 73; exact qwordQ HR2.out _ _))
            go_wp2
            go_ret
            exact ⟨by rw [HV.out]; rfl, by simpa using HR2.out.drewN (m + nq), grown_drewN HG2.out _⟩
          · have x0' : ((x : Int) == 0) = false := by simp [hx0]
            have HNO2 : Hid (∀ y, y < x + 1 → markWords.getD y [] = textAt E.l k → want = 2 ∧ y ≠ 0) := Lib.hid (fun y hy hm => by
              rcases Nat.lt_or_ge y x with h1 | h1
              · exact HNO.out y h1 hm
              · exact ⟨hww, by omega⟩)
            clear he hx0 hww
            generalize markWords.getD x [] = wd at hcell hb2
            go_wp2_with fail
            go_quiet ((go_at_call 73; exact qwordQ HR2.out _ _))
            go_wp2
            go_roundw
            case rel => exact ⟨x + 1, m + nq, by go_num, by omega, by simp, HNO2.out⟩
            case measure => simp [intOf]; omega
        · have w2' : ((want : Int) != 2) = true := by simp; omega
          have HV : Hid (((kindQ E want k : Nat) : Int) = (x : Int) + 1) := Lib.hid (by rw [kindQ_marked HK.out HNE.out hlt he (.inl hww)]; rfl)
          clear he hww
          generalize markWords.getD x [] = wd at hcell hb2
          go_wp2_with fail
          go_quiet ((go_at_call 73; exact qwordQ HR2.out _ _))
          go_wp2
          go_ret
          exact ⟨by rw [HV.out]; rfl, by simpa using HR2.out.drewN (m + nq), grown_drewN HG2.out _⟩
      · have hb2 : (markWords.getD x [] == textAt E.l k) = false := beq_eq_false_iff_ne.2 he
        have HNO2 : Hid (∀ y, y < x + 1 → markWords.getD y [] = textAt E.l k → want = 2 ∧ y ≠ 0) := Lib.hid (fun y hy hm => by
          rcases Nat.lt_or_ge y x with h1 | h1
          · exact HNO.out y h1 hm
          · obtain rfl : y = x := by omega
            exact absurd hm he)
        clear he
        generalize markWords.getD x [] = wd at hcell hb2
        go_wp2_with fail
        go_quiet ((go_at_call 73; exact qwordQ HR2.out _ _))
        go_wp2
        go_roundw
        case rel => exact ⟨x + 1, m + nq, by go_num, by omega, by simp, HNO2.out⟩
        case measure => simp [intOf]; omega
    · obtain rfl : x = 12 := by omega
      have HNO2 := HNO
      clear hlt hx
      obtain ⟨w3, hw3⟩ : ∃ w3, w2.drewN m = w3 := ⟨_, rfl⟩
      have HR3 : Hid (Rq E lv b w3 nv nm (.ok k)) := Lib.hid (by rw [← hw3]; exact HR2.out.drewN m)
      have HG3 : Hid (w.grownBy w3 (some b)) := Lib.hid (by rw [← hw3]; exact grown_drewN HG2.out m)
      go_wp2_with fail
      clear hw3 c0 c1 c2 c3 c4 c5
      refine (rplainL_any _).mono ?_
      rintro e w4 ⟨rfl, hb4, hc4⟩
      have HR4 := Lib.hid (HR3.out.kept hb4)
      have HG4 := Lib.hid (grown_trans HG3.out (grown_below hb4))
      have HC4 := Lib.hid hc4
      obtain ⟨_, c0, c1, c2, c3, c4, c5⟩ := HR4.out.at
      clear hb4 hc4
      go_wp2_with fail
      go_loopw [7] (fun ix wr => ∃ (x m : Nat), ix = .int .i64 x ∧ x ≤ 11 ∧ wr = w4.drewN m ∧ (∀ y, y < x → markWords.getD (y + 12) [] = textAt E.l k → want = 1)) (fun i _ => 11 - (intOf i).toNat)
      case atStart => exact ⟨0, 0, rfl, by omega, rfl, fun y hy => absurd hy (by omega)⟩
      case round =>
        obtain ⟨x, m, rfl, hx, rfl, hno⟩ := hrel
        have HNO := Lib.hid hno
        clear hno
        by_cases hlt : x < 11
        · have hcell := HC4.out x hlt
          have x1 : ¬ (11 ≤ x) := by omega
          have x2 : ¬ (11 ≤ (x : Int)) := by omega
          have x3 : (x : Int) < 11 := by omega
          have x4 : IntKind.i64.wrap (x : Int) = (x : Int) := by rw [IntKind.wrap_i64]; omega
          by_cases he : markWords.getD (x + 12) [] = textAt E.l k
          · have hb2 : (markWords.getD (x + 12) [] == textAt E.l k) = true := by rw [he]; exact beq_self_eq_true _
            by_cases hww : want = 1
            · have w2' : ((want : Int) != 1) = false := by simp [hww]
              have HNO3 : Hid (∀ y, y < x + 1 → markWords.getD (y + 12) [] = textAt E.l k → want = 1) := Lib.hid (fun y hy hm => hww)
              clear he hww
              generalize markWords.getD (x + 12) [] = wd at hcell hb2
              go_wp2_with fail
              go_quiet ((go_at_call 73; exact qwordQ HR4.out _ _))
              go_wp2
              go_roundw
              case rel => exact ⟨x + 1, m + nq, by go_num, by omega, by simp, HNO3.out⟩
              case measure => simp [intOf]; omega
            · have w2' : ((want : Int) != 1) = true := by simp; omega
              have HV : Hid (((kindQ E want k : Nat) : Int) = 13 + (x : Int)) := Lib.hid (by rw [kindQ_plain HK.out HNE.out hlt he hww]; simp)
              clear he hww
              generalize markWords.getD (x + 12) [] = wd at hcell hb2
              go_wp2_with fail
              go_quiet ((go_at_call 73; exact qwordQ HR4.out _ _))
              go_wp2
              go_ret
              exact ⟨by rw [HV.out]; rfl, by simpa using HR4.out.drewN (m + nq), grown_drewN HG4.out _⟩
          · have hb2 : (markWords.getD (x + 12) [] == textAt E.l k) = false := beq_eq_false_iff_ne.2 he
            have HNO3 : Hid (∀ y, y < x + 1 → markWords.getD (y + 12) [] = textAt E.l k → want = 1) := Lib.hid (fun y hy hm => by
              rcases Nat.lt_or_ge y x with h1 | h1
              · exact HNO.out y h1 hm
              · obtain rfl : y = x := by omega
                exact absurd hm he)
            clear he
            generalize markWords.getD (x + 12) [] = wd at hcell hb2
            go_wp2_with fail
            go_quiet ((go_at_call 73; exact qwordQ HR4.out _ _))
            go_wp2
            go_roundw
            case rel => exact ⟨x + 1, m + nq, by go_num, by omega, by simp, HNO3.out⟩
            case measure => simp [intOf]; omega
        · obtain rfl : x = 11 := by omega
          have HV : Hid (kindQ E want k = 0) := Lib.hid (kindQ_none HK.out (fun x hx hm => HNO2.out x hx hm) (fun y hy hm => HNO.out y hy hm))
          clear hlt hx
          go_wp2
          go_ret
          exact ⟨by rw [HV.out]; rfl, by simpa using HR4.out.drewN m, grown_drewN HG4.out _⟩

theorem qlist_any (want : Nat) (hw2 : want ≤ 2) {k : Nat} (hne : kindAt E.l k = 3 → textAt E.l k ≠ []) (h : Rq E lv b w nv nm (.ok k)) :
    Calls Tryd.prog 76 #[.pointer (some ⟨b, 0, none⟩), .int .i64 want] w fun e w' => e = .returned (.int .i64 (kindQ E want k : Nat)) ∧ TurnQ E lv b w nv nm (.ok k) w' := by
  by_cases hk : kindAt E.l k = 3
  · exact qlist_word want hw2 hk (hne hk) h
  · rw [show kindQ E want k = 0 by unfold kindQ; rw [if_neg hk]]
    exact qlist_none want hk h
end
end Go.Proofs.YtefjgpahgffmfaaDoor
