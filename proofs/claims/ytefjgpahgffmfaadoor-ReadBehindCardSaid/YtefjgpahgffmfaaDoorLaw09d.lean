/- Walk of transhiplaw09.ReadBehind. -/
import Derived.Test.YtefjgpahgffmfaaDoorLaw09b
import Derived.Test.YtefjgpahgffmfaaDoorAg
namespace Go.Proofs.YtefjgpahgffmfaaDoor
open Go.RowKit

theorem kindAt_shift (d : Nat) (l : List Tok) (x : Nat) : kindAt (l.map (shiftT d)) x = kindAt l x := by
  unfold kindAt
  rw [List.getElem?_map]
  cases l[x]? <;> rfl
theorem textAt_shift (d : Nat) (l : List Tok) (x : Nat) : textAt (l.map (shiftT d)) x = textAt l x := by
  unfold textAt
  rw [List.getElem?_map]
  cases l[x]? <;> rfl

def wrapT (s : List UInt8) : List UInt8 := [10, 32, 59, 40, 10] ++ s ++ [10, 9, 59, 32, 120]
theorem wrap_lex {s : List UInt8} {toks : List Tok} (h : lexL s = (toks, none)) : lexL (wrapT s) = (toks.map (shiftT 5), none) := by
  have e : wrapT s = [10, 32, 59, 40] ++ 10 :: (s ++ 10 :: [9, 59, 32, 120]) := by simp [wrapT]
  have h1 : lexL [10, 32, 59, 40] = ([], none) := by decide +kernel
  have h2 : lexL [9, 59, 32, 120] = ([], none) := by decide +kernel
  rw [e, lexL_line, lexL_line, h, h1, h2]
  simp [thenX, shiftX]
theorem wrap_read {s : List UInt8} {nm : List (List UInt8)} {i j : Nat} {t : TT} {k : Nat} (h : readM s nm i j = .ok t k) : ∃ k', readM (wrapT s) nm i j = .ok t k' := by
  obtain ⟨toks, hl, hk, _⟩ := readM_parts h
  have h2 := readM_like h hl none (wrap_lex hl) (by simp) (fun x _ => ⟨kindAt_shift 5 toks x, textAt_shift 5 toks x⟩)
  rw [if_neg (by simp)] at h2
  exact ⟨_, h2⟩

def tailOK (x : List Tok × Option Nat) : Bool := match x with
  | (t :: _, _) => t.pos == 0
  | ([], some p) => p == 0
  | ([], none) => false
theorem behind_read {s z : List UInt8} {nm : List (List UInt8)} {i j : Nat} {t : TT} {k : Nat} (h : readM s nm i j = .ok t k) (hz : tailOK (lexL z) = true) : ∃ q, readM (s ++ 10 :: z) nm i j = .bad q ∧ placeM (s ++ 10 :: z) q = s.length + 1 := by
  obtain ⟨toks, hl, hk, _⟩ := readM_parts h
  rcases hq : lexL z with ⟨tl, o⟩
  rw [hq] at hz
  have hl2 : lexL (s ++ 10 :: z) = (toks ++ tl.map (shiftT (s.length + 1)), o.map (· + (s.length + 1))) := by
    rw [lexL_line, hl, hq]; rfl
  have h2 := readM_like h hl _ hl2 (by simp) (fun x hx => by
    unfold kindAt textAt
    rw [List.getElem?_append_left hx]
    exact ⟨rfl, rfl⟩)
  refine ⟨toks.length, ?_, ?_⟩
  · rw [h2, if_pos]
    cases tl with
    | cons a tl => left; simp
    | nil =>
      cases o with
      | none => cases hz
      | some p => right; simp
  · unfold placeM
    rw [hl2]
    dsimp only
    cases tl with
    | cons a tl =>
      rw [List.getElem?_append_right (Nat.le_refl _)]
      simp only [tailOK, beq_iff_eq] at hz
      simp [shiftT, hz]
    | nil =>
      cases o with
      | none => cases hz
      | some p =>
        simp only [tailOK, beq_iff_eq] at hz
        simp [hz]
theorem six (wh : Int) : ∃ r : Nat, r < 6 ∧ (IntKind.u64.wrap wh).tmod 6 = (r : Int) := by
  have h1 : IntKind.u64.wrap wh = wh % 18446744073709551616 := by simp [IntKind.wrap, IntKind.bits, IntKind.signed]
  have h2 : 0 ≤ wh % 18446744073709551616 := Int.emod_nonneg _ (by omega)
  rw [h1, Int.tmod_eq_emod_of_nonneg h2]
  have h3 : 0 ≤ wh % 18446744073709551616 % 6 := Int.emod_nonneg _ (by omega)
  have h4 : wh % 18446744073709551616 % 6 < 6 := Int.emod_lt_of_pos _ (by omega)
  exact ⟨(wh % 18446744073709551616 % 6).toNat, by omega, by omega⟩
def tails : List (List UInt8) := [[40], [41], [120], [48], [36], [40, 115, 111, 114, 116, 32, 48, 41]]
theorem tails_ok : ∀ z ∈ tails, tailOK (lexL z) = true := by decide +kernel
theorem wrap_app (s : ByteArray) : ((ByteArray.mk #[10, 32, 59, 40, 10]) ++ s ++ (ByteArray.mk #[10, 9, 59, 32, 120])) = ⟨(wrapT s.data.toList).toArray⟩ := by
  have h1 := str_append [10, 32, 59, 40, 10] s.data.toList
  have h2 := str_append ([10, 32, 59, 40, 10] ++ s.data.toList) [10, 9, 59, 32, 120]
  rw [← h1] at h2
  exact h2
theorem tail_app (s : ByteArray) (z : List UInt8) : (s ++ (ByteArray.mk #[10]) ++ (ByteArray.mk z.toArray)) = ⟨(s.data.toList ++ 10 :: z).toArray⟩ := by
  have h1 := str_append s.data.toList [10]
  have h2 := str_append (s.data.toList ++ [10]) z
  rw [← h1] at h2
  rw [show s.data.toList ++ 10 :: z = s.data.toList ++ [10] ++ z by simp]
  exact h2

set_option maxRecDepth 100000 in
set_option maxHeartbeats 4000000 in
theorem readBehind_walk (s : ByteArray) (nm : List (List UInt8)) (v : Value) (wh : Int) (w : World) (hN : Has w 1 v nm.length (textRow nm)) (hwh : In64 wh) (ht : Tab w) :
    Calls Tryd.prog 8 #[.string s, v, .int .i64 wh] w fun e w' => e = .returned (.bool true) ∧ Below w.heap.size w w' := by
  have HT := Lib.hid ht
  have HN := Lib.hid hN
  have HW := Lib.hid hwh
  obtain ⟨a, c, rfl⟩ : ∃ a c, v = .slice a nm.length c := by
    rcases hN.2 with ⟨rfl, h0⟩ | ⟨bt, o, c, rfl, _⟩
    · exact ⟨none, 0, by rw [h0]⟩
    · exact ⟨_, _, rfl⟩
  clear ht hN hwh
  rcases Bool.eq_false_or_eq_true (decide ((2000 : Int) < (s.size : Int))) with hl | hl
  · go_enter Tryd.func8, Tryd.ntmps8
    go_wp2
    go_ret
    exact ⟨rfl, Below.refl _ _⟩
  have HL : Hid (s.size ≤ 2000) := Lib.hid (by have := of_decide_eq_false hl; omega)
  go_enter Tryd.func8, Tryd.ntmps8
  go_wp2_with fail
  refine (greatN_any nm _ w HN.out).mono ?_
  rintro e _ ⟨rfl, rfl⟩
  cases hg : greatN nm
  case true =>
    clear hg
    go_wp2
    go_ret
    exact ⟨rfl, Below.refl _ _⟩
  have HLN : Hid (nm.length ≤ 60) := Lib.hid (by
    unfold greatN at hg
    simp only [Bool.or_eq_false_iff, decide_eq_false_iff_not] at hg
    omega)
  clear hg
  cases hr : readM s.data.toList nm 1 2 with
  | bad q =>
    go_wp2_with fail
    refine (read_bad s 1 2 w HT.out (Nat.le_trans HL.out (by decide)) HN.out (Nat.le_trans HLN.out (by decide)) (by decide) hr rfl).mono ?_
    rintro e w1 ⟨rfl, hb⟩
    have HB1 : Hid (Below w.heap.size w w1) := Lib.hid hb
    clear hb hr
    generalize placeM s.data.toList q = pl at *
    unfold termV
    go_wp2_with fail
    refine (wakes09 _ (HT.out.below (HB1.out.trans ((below_alloc _ _).mono HB1.out.size)))).mono ?_
    rintro e w2 ⟨rfl, hb⟩
    have HB2 : Hid (Below w.heap.size w w2) := Lib.hid (HB1.out.trans ((below_alloc w1 (.cells #[.int .i64 0, .int .i64 0, .int .i64 0, .int .i64 0, .slice none 0 0] 24)).mono HB1.out.size |>.trans (hb.mono (Nat.le_trans HB1.out.size (below_alloc _ _).size))))
    clear hb
    go_wp2
    go_ret
    exact ⟨rfl, HB2.out⟩
  | ok t q =>
    obtain ⟨k, ti, tj, tn, ks⟩ := t
    have HR2 := Lib.hid (wrap_read hr)
    have HR3 : Hid (∀ z ∈ tails, ∃ q, readM (s.data.toList ++ 10 :: z) nm 1 2 = .bad q ∧ placeM (s.data.toList ++ 10 :: z) q = s.data.toList.length + 1) := Lib.hid (fun z hz => behind_read hr (tails_ok z hz))
    go_wp2_with fail
    refine (read_ok s 1 2 w HT.out (Nat.le_trans HL.out (by decide)) HN.out (Nat.le_trans HLN.out (by decide)) (by decide) hr).mono ?_
    rintro e w1 ⟨ka, kc, rfl, hrep, h4, hb⟩
    have HREP := Lib.hid hrep
    have HB1 : Hid (Below w.heap.size w w1) := Lib.hid hb
    have HX : Hid ((w1.alloc (.cells #[.int .i64 k, .int .i64 ti, .int .i64 tj, .int .i64 tn, .slice ka ks.length kc] 24)).heap[w1.heap.size]? = some (.cells #[.int .i64 k, .int .i64 ti, .int .i64 tj, .int .i64 tn, .slice ka ks.length kc] 24 (0, 0))) := Lib.hid (new_heap _ _ _)
    have HBX : Hid (Below w1.heap.size w1 (w1.alloc (.cells #[.int .i64 k, .int .i64 ti, .int .i64 tj, .int .i64 tn, .slice ka ks.length kc] 24))) := Lib.hid (below_alloc _ _)
    clear hb hr hrep h4
    unfold termV
    have hs2000 := HL.out
    go_wp2_with fail
    rw [wrap_app s]
    obtain ⟨q2, hq2⟩ := HR2.out
    have HSZ : Hid ((ByteArray.mk (wrapT s.data.toList).toArray).size ≤ 1099511627776) := Lib.hid (by
      have e1 : (ByteArray.mk (wrapT s.data.toList).toArray).size = (wrapT s.data.toList).length := rfl
      have e2 : (wrapT s.data.toList).length = s.size + 10 := by
        have : s.data.toList.length = s.size := by simp
        simp only [wrapT, List.length_append, List.length_cons, List.length_nil]; omega
      rw [e1, e2]
      exact Nat.le_trans (Nat.add_le_add_right HL.out 10) (by decide))
    refine (read_ok ⟨(wrapT s.data.toList).toArray⟩ 1 2 _ (HT.out.below (HB1.out.trans (HBX.out.mono HB1.out.size))) HSZ.out (HN.out.below (HB1.out.trans (HBX.out.mono HB1.out.size))) (Nat.le_trans HLN.out (by decide)) (by decide) hq2).mono ?_
    rintro e w2 ⟨ka2, kc2, rfl, hrep, h4, hb⟩
    have HREP2 := Lib.hid hrep
    have HB2 : Hid (Below (w1.heap.size + 1) (w1.alloc (.cells #[.int .i64 k, .int .i64 ti, .int .i64 tj, .int .i64 tn, .slice ka ks.length kc] 24)) w2) := Lib.hid (by
      have := hb
      rwa [show (w1.alloc (.cells #[.int .i64 k, .int .i64 ti, .int .i64 tj, .int .i64 tn, .slice ka ks.length kc] 24)).heap.size = w1.heap.size + 1 by simp] at this)
    have HX2 : Hid (w2.heap[w1.heap.size]? = some (.cells #[.int .i64 k, .int .i64 ti, .int .i64 tj, .int .i64 tn, .slice ka ks.length kc] 24 (0, 0))) := Lib.hid ((HB2.out.block _ (by omega)).trans HX.out)
    clear hb hq2 hrep h4
    obtain ⟨r, hr6, hr⟩ := six wh
    obtain ⟨z, hz, hcz⟩ : ∃ z ∈ tails, ((w2.alloc (.cells #[.int .i64 k, .int .i64 ti, .int .i64 tj, .int .i64 tn, .slice ka2 ks.length kc2] 24)).alloc (.cells #[.string ⟨#[40]⟩, .string ⟨#[41]⟩, .string ⟨#[120]⟩, .string ⟨#[48]⟩, .string ⟨#[36]⟩, .string ⟨#[40, 115, 111, 114, 116, 32, 48, 41]⟩] 9)).cell? ⟨w2.heap.size + 1, r, none⟩ = some (.string ⟨z.toArray⟩) := by
      have hh := new_heap (w2.alloc (.cells #[.int .i64 k, .int .i64 ti, .int .i64 tj, .int .i64 tn, .slice ka2 ks.length kc2] 24)) #[.string ⟨#[40]⟩, .string ⟨#[41]⟩, .string ⟨#[120]⟩, .string ⟨#[48]⟩, .string ⟨#[36]⟩, .string ⟨#[40, 115, 111, 114, 116, 32, 48, 41]⟩] 9
      rw [show (w2.alloc (.cells #[.int .i64 k, .int .i64 ti, .int .i64 tj, .int .i64 tn, .slice ka2 ks.length kc2] 24)).heap.size = w2.heap.size + 1 by simp] at hh
      have hc := fun x => Lib.cell_of_heap hh x
      refine ⟨tails.getD r [], ?_, ?_⟩
      · rcases (show r = 0 ∨ r = 1 ∨ r = 2 ∨ r = 3 ∨ r = 4 ∨ r = 5 by omega) with rfl | rfl | rfl | rfl | rfl | rfl <;> simp [tails]
      · refine (hc r).trans ?_
        rcases (show r = 0 ∨ r = 1 ∨ r = 2 ∨ r = 3 ∨ r = 4 ∨ r = 5 by omega) with rfl | rfl | rfl | rfl | rfl | rfl <;> rfl
    have HZ := Lib.hid hz
    have hzl : z.length ≤ 8 := by
      have : ∀ z ∈ tails, z.length ≤ 8 := by decide
      exact this z hz
    have HZL := Lib.hid hzl
    have HXA : Hid (((w2.alloc (.cells #[.int .i64 k, .int .i64 ti, .int .i64 tj, .int .i64 tn, .slice ka2 ks.length kc2] 24)).alloc (.cells #[.string ⟨#[40]⟩, .string ⟨#[41]⟩, .string ⟨#[120]⟩, .string ⟨#[48]⟩, .string ⟨#[36]⟩, .string ⟨#[40, 115, 111, 114, 116, 32, 48, 41]⟩] 9)).heap[w1.heap.size]? = some (.cells #[.int .i64 k, .int .i64 ti, .int .i64 tj, .int .i64 tn, .slice ka ks.length kc] 24 (0, 0)) ∧ ((w2.alloc (.cells #[.int .i64 k, .int .i64 ti, .int .i64 tj, .int .i64 tn, .slice ka2 ks.length kc2] 24)).alloc (.cells #[.string ⟨#[40]⟩, .string ⟨#[41]⟩, .string ⟨#[120]⟩, .string ⟨#[48]⟩, .string ⟨#[36]⟩, .string ⟨#[40, 115, 111, 114, 116, 32, 48, 41]⟩] 9)).heap[w2.heap.size]? = some (.cells #[.int .i64 k, .int .i64 ti, .int .i64 tj, .int .i64 tn, .slice ka2 ks.length kc2] 24 (0, 0)) ∧ Below w2.heap.size w2 ((w2.alloc (.cells #[.int .i64 k, .int .i64 ti, .int .i64 tj, .int .i64 tn, .slice ka2 ks.length kc2] 24)).alloc (.cells #[.string ⟨#[40]⟩, .string ⟨#[41]⟩, .string ⟨#[120]⟩, .string ⟨#[48]⟩, .string ⟨#[36]⟩, .string ⟨#[40, 115, 111, 114, 116, 32, 48, 41]⟩] 9)) ∧ ((w2.alloc (.cells #[.int .i64 k, .int .i64 ti, .int .i64 tj, .int .i64 tn, .slice ka2 ks.length kc2] 24)).alloc (.cells #[.string ⟨#[40]⟩, .string ⟨#[41]⟩, .string ⟨#[120]⟩, .string ⟨#[48]⟩, .string ⟨#[36]⟩, .string ⟨#[40, 115, 111, 114, 116, 32, 48, 41]⟩] 9)).heap.size = w2.heap.size + 2) := Lib.hid (by
      have hlt := (Array.getElem?_eq_some_iff.1 HX2.out).1
      have b1 : Below w2.heap.size w2 ((w2.alloc (.cells #[.int .i64 k, .int .i64 ti, .int .i64 tj, .int .i64 tn, .slice ka2 ks.length kc2] 24)).alloc (.cells #[.string ⟨#[40]⟩, .string ⟨#[41]⟩, .string ⟨#[120]⟩, .string ⟨#[48]⟩, .string ⟨#[36]⟩, .string ⟨#[40, 115, 111, 114, 116, 32, 48, 41]⟩] 9)) := (below_alloc _ _).trans ((below_alloc _ _).mono (by simp))
      exact ⟨(b1.block _ hlt).trans HX2.out, (Lib.alloc_old _ _ _ (by simp)).trans (new_heap _ _ _), b1, by simp⟩)
    clear hz
    unfold termV
    go_wp2_with fail
    generalize ((w2.alloc (.cells #[.int .i64 k, .int .i64 ti, .int .i64 tj, .int .i64 tn, .slice ka2 ks.length kc2] 24)).alloc (.cells #[.string ⟨#[40]⟩, .string ⟨#[41]⟩, .string ⟨#[120]⟩, .string ⟨#[48]⟩, .string ⟨#[36]⟩, .string ⟨#[40, 115, 111, 114, 116, 32, 48, 41]⟩] 9)) = W3 at *
    have HSW : Hid (w1.heap.size < w2.heap.size) := Lib.hid ((Array.getElem?_eq_some_iff.1 HX2.out).1)
    have HW12 : Hid (Below w1.heap.size w1 w2) := Lib.hid (HBX.out.trans (HB2.out.mono (by omega)))
    have HW13 : Hid (Below w1.heap.size w1 W3) := Lib.hid (HW12.out.trans (HXA.out.2.2.1.mono HW12.out.size))
    have HW03 : Hid (Below w.heap.size w W3) := Lib.hid (HB1.out.trans (HW13.out.mono HB1.out.size))
    obtain ⟨q3, hq3, hp3⟩ := HR3.out z HZ.out
    rw [show s.data.toList.length + 1 = s.size + 1 by simp] at hp3
    have HSZ3 : Hid ((ByteArray.mk (s.data.toList ++ 10 :: z).toArray).size ≤ 1099511627776) := Lib.hid (by
      have e1 : (ByteArray.mk (s.data.toList ++ 10 :: z).toArray).size = (s.data.toList ++ 10 :: z).length := rfl
      have e2 : (s.data.toList ++ 10 :: z).length ≤ 2000 + 9 := by
        have h1 : s.data.toList.length = s.size := by simp
        have h2 := HL.out
        have h3 := HZL.out
        rw [List.length_append, List.length_cons]; omega
      rw [e1]
      exact Nat.le_trans e2 (by decide))
    rw [tail_app s z]
    refine (read_bad ⟨(s.data.toList ++ 10 :: z).toArray⟩ 1 2 W3 (HT.out.below HW03.out) HSZ3.out (HN.out.below HW03.out) (Nat.le_trans HLN.out (by decide)) (by decide) hq3 hp3).mono ?_
    rintro e w3 ⟨rfl, hb⟩
    have HB3 : Hid (Below W3.heap.size W3 w3) := Lib.hid hb
    rw [show ((s.size + 1 : Nat) : Int) = (s.size : Int) + 1 from rfl]
    have HB4 : Hid (Below W3.heap.size W3 (w3.alloc (.cells #[.int .i64 0, .int .i64 0, .int .i64 0, .int .i64 0, .slice none 0 0] 24))) := Lib.hid (HB3.out.trans ((below_alloc _ _).mono HB3.out.size))
    have HX4 : Hid ((w3.alloc (.cells #[.int .i64 0, .int .i64 0, .int .i64 0, .int .i64 0, .slice none 0 0] 24)).heap[w1.heap.size]? = some (.cells #[.int .i64 k, .int .i64 ti, .int .i64 tj, .int .i64 tn, .slice ka ks.length kc] 24 (0, 0)) ∧ (w3.alloc (.cells #[.int .i64 0, .int .i64 0, .int .i64 0, .int .i64 0, .slice none 0 0] 24)).heap[w2.heap.size]? = some (.cells #[.int .i64 k, .int .i64 ti, .int .i64 tj, .int .i64 tn, .slice ka2 ks.length kc2] 24 (0, 0))) := Lib.hid (by
      have h1 := HXA.out.2.2.2
      have h2 := HSW.out
      exact ⟨(HB4.out.block _ (by omega)).trans HXA.out.1, (HB4.out.block _ (by omega)).trans HXA.out.2.1⟩)
    have g1 : sameT (.node k ti tj tn ks) (.node k ti tj tn ks) = true := (sameT_iff _ _).2 rfl
    have HR4 : Hid (RepT (w3.alloc (.cells #[.int .i64 0, .int .i64 0, .int .i64 0, .int .i64 0, .slice none 0 0] 24)) ks (.slice ka ks.length kc) ∧ RepT (w3.alloc (.cells #[.int .i64 0, .int .i64 0, .int .i64 0, .int .i64 0, .slice none 0 0] 24)) ks (.slice ka2 ks.length kc2)) := Lib.hid ⟨HREP.out.kept (HW13.out.trans (HB4.out.mono HW13.out.size)), HREP2.out.kept (HXA.out.2.2.1.trans (HB4.out.mono HXA.out.2.2.1.size))⟩
    obtain ⟨x0, x1, x2, x3, x4⟩ := box_cells5 HX4.out.1
    obtain ⟨y0, y1, y2, y3, y4⟩ := box_cells5 HX4.out.2
    clear hb hq3 hp3 hcz hr6 hr hzl
    unfold termV
    go_wp2_with fail
    refine (same_any k ti tj tn k ti tj tn ks ks _ _ _ HR4.out.1 HR4.out.2).mono ?_
    rintro e w5 ⟨rfl, hb⟩
    have HB5 : Hid (Below w.heap.size w w5) := Lib.hid (HW03.out.trans ((HB4.out.trans (hb.mono HB4.out.size)).mono HW03.out.size))
    clear hb x0 x1 x2 x3 x4 y0 y1 y2 y3 y4
    rw [g1]
    go_wp2_with fail
    refine (wakes09 _ (HT.out.below HB5.out)).mono ?_
    rintro e w6 ⟨rfl, hb⟩
    have HB6 : Hid (Below w.heap.size w w6) := Lib.hid (HB5.out.trans (hb.mono HB5.out.size))
    clear hb
    go_wp2
    go_ret
    exact ⟨rfl, HB6.out⟩
end Go.Proofs.YtefjgpahgffmfaaDoor
