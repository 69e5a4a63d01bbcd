/- Walk of transhiplaw10.WriteFixed. -/
import Derived.Test.YtefjgpahgffmfaaDoorLaw10c
namespace Go.Proofs.YtefjgpahgffmfaaDoor
open Go.RowKit

theorem mv {l : List Tok} {α : Type} {d k : Nat} {r : RR α} (h : Moves l d k r) {a : α} {k' : Nat} (e : r = .ok a k') : k + d ≤ k' ∧ k' ≤ l.length := by
  rw [e] at h; exact h
theorem kids_size {E : REnv} {F : List (List UInt8) → Nat → Nat → RR TT} {outer : List (List UInt8)} {kd : Nat} (hF : ∀ nm want k t k', k ≤ E.l.length → F nm want k = .ok t k' → k + sizeT t ≤ k' ∧ k' ≤ E.l.length) :
    ∀ (c x : Nat) (nm : List (List UInt8)) (acc : List TT) (k : Nat) (ks : List TT) (k' : Nat), k ≤ E.l.length → kidsM E F outer kd c x nm acc k = .ok ks k' → ∃ l, ks = acc ++ l ∧ k + sizeTs l ≤ k' ∧ k' ≤ E.l.length
  | 0, x, nm, acc, k, ks, k', hk, h => by
    simp only [kidsM] at h
    cases h
    exact ⟨[], by simp, by simp [sizeTs], hk⟩
  | c + 1, x, nm, acc, k, ks, k', hk, h => by
    simp only [kidsM] at h
    obtain ⟨nm1, k1, e1, h1⟩ := RR.bind_eq_ok h
    obtain ⟨t, k2, e2, h2⟩ := RR.bind_eq_ok h1
    have m1 := mv (bindM_moves E kd x nm hk) e1
    have m2 := hF _ _ _ _ _ m1.2 e2
    obtain ⟨l, e, h3, h4⟩ := kids_size hF c (x + 1) nm1 (acc ++ [t]) k2 ks k' m2.2 h2
    exact ⟨t :: l, by rw [e]; simp, by simp only [sizeTs]; omega, h4⟩
theorem term_size (E : REnv) : ∀ (f : Nat) (nm : List (List UInt8)) (want k : Nat) (t : TT) (k' : Nat), k ≤ E.l.length → termM E f nm want k = .ok t k' → k + sizeT t ≤ k' ∧ k' ≤ E.l.length
  | 0, nm, want, k, t, k', _, h => by simp [termM] at h
  | f + 1, nm, want, k, t, k', hk, h => by
    have hm := mv (termM_moves E (f + 1) nm want k hk) h
    refine ⟨?_, hm.2⟩
    unfold termM at h
    split at h
    · split at h
      · cases h
        simp [sizeT, sizeTs]
      · cases h
    split at h
    · cases h
    split at h
    · cases h
    split at h
    · cases h
    · rename_i h3 _ _
      have hk1 := kindAt_lt (l := E.l) (k := k + 1) (by omega)
      unfold bodyM at h
      obtain ⟨x, k1, e1, g1⟩ := RR.bind_eq_ok h
      obtain ⟨nm2, k2, e2, g2⟩ := RR.bind_eq_ok g1
      obtain ⟨ks, k3, e3, g3⟩ := RR.bind_eq_ok g2
      have m1 := mv (headM_moves E _ (show k + 2 ≤ E.l.length by omega)) e1
      have m2 : k1 ≤ k2 ∧ k2 ≤ E.l.length := by
        split at e2
        · obtain ⟨s, k4, e4, g4⟩ := RR.bind_eq_ok e2
          cases g4
          have := mv (wordM_moves E m1.2) e4
          omega
        · cases e2; omega
      obtain ⟨l, e, m3, m4⟩ := kids_size (fun nm want k t k' hk h => term_size E f nm want k t k' hk h) _ _ _ _ _ _ _ m2.2 e3
      unfold closeM at g3
      split at g3
      · cases g3
        simp only [List.nil_append] at e
        subst e
        simp only [sizeT]; omega
      · cases g3
theorem readM_size {text : List UInt8} {nm : List (List UInt8)} {i j : Nat} {t : TT} {k : Nat} (h : readM text nm i j = .ok t k) : sizeT t ≤ text.length := by
  obtain ⟨toks, hl, hk, ht⟩ := readM_parts h
  have h1 := (term_size _ _ _ _ _ _ _ (Nat.zero_le _) ht).1
  have h2 := lexL_length text
  rw [hl] at h2
  dsimp only at h2
  omega
theorem writeT_some {t : TT} {m : Int} : (writeT t m).isEmpty = false := by
  cases t with
  | node k i j n ks =>
    simp only [writeT]
    split
    · rfl
    · unfold headT; rfl

set_option maxRecDepth 100000 in
set_option maxHeartbeats 4000000 in
theorem writeFixed_in (s : ByteArray) (N : Nat) (w : World) (hs : s.size ≤ 2000) (hN : N ≤ 60) (ht : Tab w) :
    Calls Tryd.prog 13 #[.string s, .int .i64 N] w fun e w' => e = .returned (.bool true) ∧ Below w.heap.size w w' := by
  have HT := Lib.hid ht
  have HS := Lib.hid (And.intro hs hN)
  have g1 : decide ((2000 : Int) < (s.size : Int)) = false := decide_eq_false (by omega)
  have g2 : decide ((N : Int) < 0) = false := decide_eq_false (by omega)
  have g3 : decide ((60 : Int) < (N : Int)) = false := decide_eq_false (by omega)
  clear hs hN ht
  go_enter Tryd.func13, Tryd.ntmps13
  go_wp2_with fail
  refine (wNames_any N w (by have := HS.out.2; omega) HT.out).mono ?_
  rintro e w1 ⟨nv, rfl, hb, hown⟩
  have HB1 : Hid (Below w.heap.size w w1) := Lib.hid hb
  have HN : Hid (Has w1 1 nv (namesL N).length (textRow (namesL N))) := Lib.hid (by rw [namesL_len]; exact Has.of_owns hown)
  clear hb hown
  have HNL : Hid ((namesL N).length ≤ 1099511627776) := Lib.hid (by rw [namesL_len]; exact Nat.le_trans HS.out.2 (by decide))
  have HSZ : Hid (s.size ≤ 1099511627776) := Lib.hid (Nat.le_trans HS.out.1 (by decide))
  cases hr : readM s.data.toList (namesL N) 0 0 with
  | bad q =>
    go_wp2_with fail
    refine (read_bad s 0 0 w1 (HT.out.below HB1.out) HSZ.out HN.out HNL.out (by decide) hr rfl).mono ?_
    rintro e w2 ⟨rfl, hb⟩
    have HB2 : Hid (Below w.heap.size w (w2.alloc (.cells #[.int .i64 0, .int .i64 0, .int .i64 0, .int .i64 0, .slice none 0 0] 24))) := Lib.hid (HB1.out.trans ((hb.trans ((below_alloc _ _).mono hb.size)).mono HB1.out.size))
    clear hb hr
    generalize placeM s.data.toList q = pl at *
    unfold termV
    go_wp2_with fail
    refine (wakes10 _ (HT.out.below HB2.out)).mono ?_
    rintro e w3 ⟨rfl, hb⟩
    have HB3 := Lib.hid (HB2.out.trans (hb.mono HB2.out.size))
    clear hb
    go_wp2
    go_ret
    exact ⟨rfl, HB3.out⟩
  | ok t q =>
    obtain ⟨k, ti, tj, tn, ks⟩ := t
    have hlen : s.data.toList.length = s.size := by simp
    have hright := readM_right (by rw [namesL_len]; have := HS.out; omega) hr
    rw [namesL_len] at hright
    have HQ : Hid (rightT (.node k ti tj tn ks) 0 = true ∧ freeOf (.node k ti tj tn ks) ≤ N ∧ sizeT (.node k ti tj tn ks) ≤ 2000) := Lib.hid ⟨hright.1, hright.2, by have := readM_size hr; have := HS.out.1; omega⟩
    go_wp2_with fail
    refine (read_ok s 0 0 w1 (HT.out.below HB1.out) HSZ.out HN.out HNL.out (by decide) hr).mono ?_
    rintro e w2 ⟨ka, kc, rfl, hrep, h4, hb⟩
    have HREP := Lib.hid (And.intro hrep h4)
    have HB2 : Hid (Below w.heap.size w w2) := Lib.hid (HB1.out.trans (hb.mono HB1.out.size))
    have HX : Hid ((w2.alloc (.cells #[.int .i64 k, .int .i64 ti, .int .i64 tj, .int .i64 tn, .slice ka ks.length kc] 24)).heap[w2.heap.size]? = some (.cells #[.int .i64 k, .int .i64 ti, .int .i64 tj, .int .i64 tn, .slice ka ks.length kc] 24 (0, 0)) ∧ Below w2.heap.size w2 (w2.alloc (.cells #[.int .i64 k, .int .i64 ti, .int .i64 tj, .int .i64 tn, .slice ka ks.length kc] 24)) ∧ (w2.alloc (.cells #[.int .i64 k, .int .i64 ti, .int .i64 tj, .int .i64 tn, .slice ka ks.length kc] 24)).heap.size = w2.heap.size + 1) := Lib.hid ⟨new_heap _ _ _, below_alloc _ _, by simp⟩
    clear hb hr hrep h4 hright hlen
    obtain ⟨x0, x1, x2, x3, x4⟩ := box_cells5 HX.out.1
    unfold termV
    go_wp2_with fail
    generalize w2.alloc (.cells #[.int .i64 k, .int .i64 ti, .int .i64 tj, .int .i64 tn, .slice ka ks.length kc] 24) = W0 at *
    have KEY : Hid (∀ w', Below W0.heap.size W0 w' → w'.heap[w2.heap.size]? = some (.cells #[.int .i64 k, .int .i64 ti, .int .i64 tj, .int .i64 tn, .slice ka ks.length kc] 24 (0, 0)) ∧ Below w2.heap.size w2 w' ∧ Below w.heap.size w w') := Lib.hid (fun w' h =>
      ⟨(h.block _ (by rw [HX.out.2.2]; omega)).trans HX.out.1, HX.out.2.1.trans (h.mono HX.out.2.1.size), HB2.out.trans ((HX.out.2.1.trans (h.mono HX.out.2.1.size)).mono HB2.out.size)⟩)
    have hWW : writeW (.node k ti tj tn ks) (N : Int) = writeT (.node k ti tj tn ks) (N : Int) := writeW_in (by omega) (by have := HS.out.2; omega) HQ.out.1 (by have := HQ.out.2.1; omega)
    have HLEN : Hid ((writeT (.node k ti tj tn ks) (N : Int)).length ≤ 1000000) := Lib.hid (by
      have h1 := HQ.out.2.2
      have h2 := HS.out.2
      have := writeT_le (.node k ti tj tn ks) N 0 (by omega) (by omega) HQ.out.1
      omega)
    have HWR : Hid (∀ w' : World, ∀ v', RepT w' ks v' → In4 k ti tj tn → Tab w' → Calls Tryd.prog 15 #[termV k ti tj tn v', .int .i64 N] w' fun e w'' => e = .returned (.string ⟨(writeT (.node k ti tj tn ks) (N : Int)).toArray⟩) ∧ Below w'.heap.size w' w'') := Lib.hid (fun w' v' h1 h2 h3 => by
      rw [← hWW]
      exact writeW_any k ti tj tn ks v' N w' h1 h2 (Nat.le_trans HQ.out.2.2 (by decide)) h3)
    obtain ⟨q2, hq2⟩ := read_written (i0 := 0) (j0 := 0) HQ.out.1 (m := N) (by have h5 := HQ.out.2.1; rw [freeOf_R HQ.out.1] at h5; exact h5) (by have h1 := HQ.out.2.2; have h2 := HS.out.2; omega)
    have HRD := Lib.hid hq2
    have hne := writeT_some (t := .node k ti tj tn ks) (m := N)
    clear hq2 hWW
    generalize writeT (.node k ti tj tn ks) (N : Int) = L at *
    have hself : (L == L) = true := beq_self_eq_true _
    refine (HWR.out _ _ (HREP.out.1.kept (KEY.out _ (Below.refl _ _)).2.1) HREP.out.2 (HT.out.below (KEY.out _ (Below.refl _ _)).2.2)).mono ?_
    rintro e w3 ⟨rfl, hb⟩
    have HB3 : Hid (Below W0.heap.size W0 w3) := Lib.hid hb
    clear hb x0 x1 x2 x3 x4
    go_wp2_with fail
    refine (wNames_any N w3 (by have := HS.out.2; omega) (HT.out.below (KEY.out _ HB3.out).2.2)).mono ?_
    rintro e w4 ⟨nv4, rfl, hb, hown⟩
    have HB4 := Lib.hid (HB3.out.trans (hb.mono HB3.out.size))
    have HN4 : Hid (Has w4 1 nv4 (namesL N).length (textRow (namesL N))) := Lib.hid (by rw [namesL_len]; exact Has.of_owns hown)
    clear hb hown
    go_wp2_with fail
    refine (read_ok ⟨L.toArray⟩ 0 0 w4 (HT.out.below (KEY.out _ HB4.out).2.2) (Nat.le_trans (Nat.le_of_eq (show (ByteArray.mk L.toArray).size = L.length from rfl)) (Nat.le_trans HLEN.out (by decide))) HN4.out HNL.out (by decide) HRD.out).mono ?_
    rintro e w5 ⟨ka2, kc2, rfl, hrep, h4, hb⟩
    have HB5 := Lib.hid (HB4.out.trans (hb.mono HB4.out.size))
    have HREP5 := Lib.hid (And.intro hrep h4)
    have HX5 : Hid ((w5.alloc (.cells #[.int .i64 k, .int .i64 ti, .int .i64 tj, .int .i64 tn, .slice ka2 ks.length kc2] 24)).heap[w5.heap.size]? = some (.cells #[.int .i64 k, .int .i64 ti, .int .i64 tj, .int .i64 tn, .slice ka2 ks.length kc2] 24 (0, 0)) ∧ Below w5.heap.size w5 (w5.alloc (.cells #[.int .i64 k, .int .i64 ti, .int .i64 tj, .int .i64 tn, .slice ka2 ks.length kc2] 24)) ∧ (w5.alloc (.cells #[.int .i64 k, .int .i64 ti, .int .i64 tj, .int .i64 tn, .slice ka2 ks.length kc2] 24)).heap.size = w5.heap.size + 1) := Lib.hid ⟨new_heap _ _ _, below_alloc _ _, by simp⟩
    have HB6 : Hid (Below W0.heap.size W0 (w5.alloc (.cells #[.int .i64 k, .int .i64 ti, .int .i64 tj, .int .i64 tn, .slice ka2 ks.length kc2] 24))) := Lib.hid (HB5.out.trans (HX5.out.2.1.mono HB5.out.size))
    have hsame : sameT (.node k ti tj tn ks) (.node k ti tj tn ks) = true := (sameT_iff _ _).2 rfl
    clear hb hrep h4
    obtain ⟨x0, x1, x2, x3, x4⟩ := box_cells5 (KEY.out _ HB6.out).1
    obtain ⟨y0, y1, y2, y3, y4⟩ := box_cells5 HX5.out.1
    unfold termV
    go_wp2_with fail
    generalize w5.alloc (.cells #[.int .i64 k, .int .i64 ti, .int .i64 tj, .int .i64 tn, .slice ka2 ks.length kc2] 24) = W6 at *
    refine (same_any k ti tj tn k ti tj tn ks ks _ _ _ (HREP.out.1.kept (KEY.out _ HB6.out).2.1) (HREP5.out.1.kept HX5.out.2.1)).mono ?_
    rintro e w7 ⟨rfl, hb⟩
    have HB7 := Lib.hid (HB6.out.trans (hb.mono HB6.out.size))
    have HX7 : Hid (w7.heap[w5.heap.size]? = some (.cells #[.int .i64 k, .int .i64 ti, .int .i64 tj, .int .i64 tn, .slice ka2 ks.length kc2] 24 (0, 0)) ∧ Below w5.heap.size w5 w7) := Lib.hid ⟨(hb.block _ (by rw [HX5.out.2.2]; omega)).trans HX5.out.1, HX5.out.2.1.trans (hb.mono HX5.out.2.1.size)⟩
    clear hb x0 x1 x2 x3 x4 y0 y1 y2 y3 y4
    rw [hsame]
    obtain ⟨y0, y1, y2, y3, y4⟩ := box_cells5 HX7.out.1
    go_wp2_with fail
    refine (HWR.out _ _ (HREP5.out.1.kept HX7.out.2) HREP5.out.2 (HT.out.below (KEY.out _ HB7.out).2.2)).mono ?_
    rintro e w8 ⟨rfl, hb⟩
    have HB8 := Lib.hid (HB7.out.trans (hb.mono HB7.out.size))
    clear hb y0 y1 y2 y3 y4
    go_wp2_with fail
    refine (wakes10 _ (HT.out.below (KEY.out _ HB8.out).2.2)).mono ?_
    rintro e w9 ⟨rfl, hb⟩
    have HB9 := Lib.hid (HB8.out.trans (hb.mono HB8.out.size))
    clear hb
    go_wp2
    go_ret
    exact ⟨rfl, (KEY.out _ HB9.out).2.2⟩

set_option maxRecDepth 100000 in
set_option maxHeartbeats 4000000 in
theorem writeFixed_walk (s : ByteArray) (n : Int) (w : World) (ht : Tab w) :
    Calls Tryd.prog 13 #[.string s, .int .i64 n] w fun e w' => e = .returned (.bool true) ∧ Below w.heap.size w w' := by
  by_cases h : s.size ≤ 2000 ∧ (0 ≤ n ∧ n ≤ 60)
  · obtain ⟨N, rfl⟩ := Int.eq_ofNat_of_zero_le h.2.1
    exact writeFixed_in s N w h.1 (by omega) ht
  · rcases (show decide ((2000 : Int) < (s.size : Int)) = true ∨ (decide ((2000 : Int) < (s.size : Int)) = false ∧ decide (n < 0) = true) ∨ (decide ((2000 : Int) < (s.size : Int)) = false ∧ decide (n < 0) = false ∧ decide ((60 : Int) < n) = true) by simp only [decide_eq_true_eq, decide_eq_false_iff_not]; omega) with h1 | ⟨h1, h2⟩ | ⟨h1, h2, h3⟩
    all_goals
      clear h
      go_enter Tryd.func13, Tryd.ntmps13
      go_wp2
      go_ret
      exact ⟨rfl, Below.refl _ _⟩
end Go.Proofs.YtefjgpahgffmfaaDoor
