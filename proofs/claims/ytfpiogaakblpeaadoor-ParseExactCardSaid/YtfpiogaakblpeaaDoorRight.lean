/- Walk of deriv.Right. -/
import Derived.Test.YtfpiogaakblpeaaDoorShowM
import Derived.BigQuiet
import Derived.Deep.QuietTactic
namespace Go.Proofs.YtfpiogaakblpeaaDoor
open Go.RowKit

theorem quietR {P : Program} {f : FuncId} {args : Array Value} {w : World} {n : Nat} {v : Value}
    (h : Calls P f args (w.drewN n) fun e w' => e = .returned v ∧ w.drewN n = w') : Calls P f args (w.drewN n) fun e w'' => e = .returned v ∧ ∃ m, w'' = w.drewN m :=
  h.mono fun _ _ ⟨he, hm⟩ => ⟨he, n, hm.symm⟩

theorem below_drewN {B : Nat} {a w : World} (h : Below B a w) (n : Nat) : Below B a (w.drewN n) := ⟨h.os, h.tape, h.output, h.size, h.block⟩

set_option maxRecDepth 100000 in
set_option maxHeartbeats 1000000 in
theorem right_no (r i : Int) (ks : List DT) (v : Value) (w : World) (hrep : RepK w ks v)
    (hq : (kidsI r != (ks.length : Int)) = true ∨ (kidsI r != (ks.length : Int)) = false ∧ (decide (i < 0) = true ∨ decide (i < 0) = false ∧ (decide (1000000 < i) = true ∨ decide (1000000 < i) = false ∧ (i != 0) = true ∧ (r != 1) = true ∧ (r != 2) = true))) :
    Calls Tryd.prog 30 #[derivV r i v] w fun e w' => e = .returned (.bool false) ∧ Below w.heap.size w w' := by
  obtain ⟨hlen, a, c, rfl⟩ := hrep.form
  unfold maxLen at hlen
  clear hrep
  unfold derivV
  rcases hq with h1 | ⟨h1, h2 | ⟨h2, h3 | ⟨h3, h4, h5, h6⟩⟩⟩
  all_goals
    go_enter Tryd.func30, Tryd.ntmps30
    go_wp2
    go_quiet ((go_at_call 53; exact quietR (kids_any _ _)))
    go_wp2
    go_ret
    exact ⟨rfl, below_drewN ((Below.refl _ _).alloc (Nat.le_refl _) _) _⟩

theorem rightDs_cons {ks : List DT} {j : Nat} {k : DT} (h : ks[j]? = some k) : rightDs (ks.drop j) = (rightD k && rightDs (ks.drop (j + 1))) := by
  obtain ⟨hlt, he⟩ := List.getElem?_eq_some_iff.1 h
  rw [List.drop_eq_getElem_cons hlt, he, rightDs]

set_option maxRecDepth 100000 in
set_option maxHeartbeats 4000000 in
theorem right_any : ∀ (N : Nat) (r i : Int) (ks : List DT) (v : Value) (w : World), SizeOf.sizeOf (DT.node r i ks) < N → RepK w ks v → In64 r → In64 i →
    Calls Tryd.prog 30 #[derivV r i v] w fun e w' => e = .returned (.bool (rightD (.node r i ks))) ∧ Below w.heap.size w w' := by
  intro N
  induction N with
  | zero => intro r i ks v w h; omega
  | succ N ih =>
    intro r i ks v w hN hrep hr hi
    by_cases hcase : (kidsI r = (ks.length : Int)) ∧ 0 ≤ i ∧ i ≤ 1000000 ∧ (i = 0 ∨ r = 1 ∨ r = 2)
    · obtain ⟨hk, hi0, hi1, hq⟩ := hcase
      have hval : rightD (.node r i ks) = rightDs ks := by
        simp only [rightD, hk, hi0, hi1]
        rcases hq with h | h | h <;> simp [h]
      rw [hval]
      have h1 : (kidsI r != (ks.length : Int)) = false := by simp [hk]
      have h2 : decide (i < 0) = false := by simp; omega
      have h3 : decide (1000000 < i) = false := by simp; omega
      have hq2 : (i != 0) = false ∨ (i != 0) = true ∧ ((r != 1) = false ∨ (r != 1) = true ∧ (r != 2) = false) := by
        by_cases h0 : i = 0
        · exact .inl (by simp [h0])
        · refine .inr ⟨by simp [h0], ?_⟩
          by_cases hr1 : r = 1
          · exact .inl (by simp [hr1])
          · exact .inr ⟨by simp [hr1], by simp; omega⟩
      clear hq hk hval hi0 hi1
      obtain ⟨hlen, a, c, rfl⟩ := hrep.form
      unfold maxLen at hlen
      have HR := Lib.hid hrep
      clear hrep
      unfold derivV
      rcases hq2 with h4 | ⟨h4, h5 | ⟨h5, h6⟩⟩
      all_goals
        go_enter Tryd.func30, Tryd.ntmps30
        go_wp2
        go_quiet ((go_at_call 53; exact quietR (kids_any _ _)))
        go_wp2
        go_loopw [40] (fun ix wr => ∃ (j : Nat), ix = .int .i64 j ∧ j ≤ ks.length ∧ rightDs (ks.drop j) = rightDs ks ∧ Below (w.heap.size + 1) (w.alloc (.cells #[.int .i64 r, .int .i64 i, .slice a ks.length c] 24)) wr) (fun i _ => ks.length - (intOf i).toNat)
        case atStart => exact ⟨0, rfl, by omega, rfl, below_drewN (Below.refl _ _) _⟩
        case round =>
          obtain ⟨j, rfl, hj, hws, hbel⟩ := hrel
          have hB := below_of_box hbel
          have hsz : w.heap.size + 1 ≤ wr.heap.size := by simpa using hbel.size
          by_cases hlt : j < ks.length
          · obtain ⟨b, o, r1, i1, l1, v1, rfl, _, hbs, hj1, e0, e1, e2, hr1, hi1, hk1⟩ := (HR.out.kept hB).at j hlt
            obtain ⟨hl1, a1, c1, rfl⟩ := hk1.form
            clear hl1
            have hd := rightDs_cons hj1
            rw [hws] at hd
            have hlt1 := DT.lt hj1 r i
            have HS := Lib.hid (And.intro hd (And.intro hk1 (And.intro hr1 hi1)))
            have HB := Lib.hid (And.intro hbel hB)
            clear hws hk1 hr1 hi1 hj1 hbel hB hd
            go_wp2_with fail
            refine (ih r1 i1 l1 _ _ (by omega) (HS.out.2.1.kept ((Below.refl _ _).alloc (Nat.le_refl _) _)) HS.out.2.2.1 HS.out.2.2.2).mono ?_
            rintro e w2 ⟨rfl, hb2⟩
            have hb3 : Below (w.heap.size + 1) wr w2 := ((Below.refl _ _).alloc hsz _).trans (hb2.mono (by simp; omega))
            have HB2 := Lib.hid hb3
            clear hb2 hb3
            cases hrd : rightD (.node r1 i1 l1)
            · have hfin : rightDs ks = false := by rw [HS.out.1, hrd]; rfl
              have HF := Lib.hid hfin
              clear hfin
              go_wp2
              go_ret
              exact ⟨by rw [HF.out]; rfl, HB.out.2.trans (HB2.out.mono (Nat.le_succ _))⟩
            · have hfin : rightDs (ks.drop (j + 1)) = rightDs ks := by rw [HS.out.1, hrd]; rfl
              have HF := Lib.hid hfin
              clear hfin
              go_wp2
              go_round
              case rel => exact ⟨j + 1, by go_num, by omega, HF.out, HB.out.1.trans HB2.out⟩
              case measure => simp [intOf]; omega
          · have hjl : j = ks.length := by omega
            subst hjl
            have hfin : rightDs ks = true := by rw [← hws, List.drop_length, rightDs]
            have HF := Lib.hid (And.intro hfin hB)
            clear hws hfin hbel hB
            go_wp2
            go_ret
            exact ⟨by rw [HF.out.1]; rfl, HF.out.2⟩
    · have hval : rightD (.node r i ks) = false := by
        rw [Bool.eq_false_iff]
        intro h
        simp only [rightD, Bool.and_eq_true, beq_iff_eq, decide_eq_true_eq, Bool.or_eq_true] at h
        exact hcase ⟨h.1.1.1.1, h.1.1.1.2, h.1.1.2, by have := h.1.2; omega⟩
      rw [hval]
      refine right_no r i ks v w hrep ?_
      by_cases h1 : kidsI r = (ks.length : Int)
      · refine .inr ⟨by simp [h1], ?_⟩
        by_cases h2 : i < 0
        · exact .inl (by simp [h2])
        · refine .inr ⟨by simp; omega, ?_⟩
          by_cases h3 : 1000000 < i
          · exact .inl (by simp [h3])
          · refine .inr ⟨by simp; omega, ?_⟩
            have : ¬ (i = 0 ∨ r = 1 ∨ r = 2) := fun h => hcase ⟨h1, by omega, by omega, h⟩
            exact ⟨by simp; omega, by simp; omega, by simp; omega⟩
      · exact .inl (by simp [h1])
end Go.Proofs.YtfpiogaakblpeaaDoor
