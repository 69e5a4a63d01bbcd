/- Walk of transhiplaw17.form, at two terms of one form. -/
import Derived.Test.YtfklmcmoackepaaDoorYo
namespace Go.Proofs.YtfklmcmoackepaaDoor
open Go.RowKit

def FormC (N : Nat) : Prop := ∀ (k i j n k' i' j' n' : Int) (ks ks' : List TT) (v v' : Value) (w : World), SizeOf.sizeOf (TT.node k i j n ks) < N → RepT w ks v → RepT w ks' v' → formT (.node k i j n ks) (.node k' i' j' n' ks') = true →
  Calls Tryd.prog 11 #[termV k i j n v, termV k' i' j' n' v'] w fun e w' => e = .returned (.bool true) ∧ Below w.heap.size w w'

set_option maxRecDepth 100000 in
set_option maxHeartbeats 4000000 in
theorem form_step (N : Nat) (ih : FormC N) : FormC (N + 1) := by
  intro k i j n k' i' j' n' ks ks' v v' w hN h1 h2 hform
  have hN2 : ∀ x ∈ ks, SizeOf.sizeOf x < N := fun x hx => by
    have := List.sizeOf_lt_of_mem hx
    simp at hN
    omega
  clear hN
  obtain ⟨hlen, a, c, rfl⟩ := h1.form
  obtain ⟨hlen2, a2, c2, rfl⟩ := h2.form
  unfold maxLen at hlen hlen2
  simp only [formT, Bool.and_eq_true, beq_iff_eq, Bool.or_eq_true, Bool.not_eq_true'] at hform
  obtain ⟨⟨⟨rfl, rfl⟩, hii⟩, hks⟩ := hform
  have HN := Lib.hid hN2
  have HL := Lib.hid (form_length hks)
  have HFT := Lib.hid hks
  clear hN2 hks
  have HB0 : Hid (Below w.heap.size w ((w.alloc (.cells #[.int .i64 k, .int .i64 i, .int .i64 j, .int .i64 n, .slice a ks.length c] 24)).alloc (.cells #[.int .i64 k, .int .i64 i', .int .i64 j', .int .i64 n, .slice a2 ks'.length c2] 24)) ∧
      ((w.alloc (.cells #[.int .i64 k, .int .i64 i, .int .i64 j, .int .i64 n, .slice a ks.length c] 24)).alloc (.cells #[.int .i64 k, .int .i64 i', .int .i64 j', .int .i64 n, .slice a2 ks'.length c2] 24)).heap.size = w.heap.size + 2) := Lib.hid ⟨((Below.refl _ _).alloc (Nat.le_refl _) _).alloc (by simp) _, by simp⟩
  have HX : Hid (((w.alloc (.cells #[.int .i64 k, .int .i64 i, .int .i64 j, .int .i64 n, .slice a ks.length c] 24)).alloc (.cells #[.int .i64 k, .int .i64 i', .int .i64 j', .int .i64 n, .slice a2 ks'.length c2] 24)).heap[w.heap.size]? = some (.cells #[.int .i64 k, .int .i64 i, .int .i64 j, .int .i64 n, .slice a ks.length c] 24 (0, 0)) ∧
      ((w.alloc (.cells #[.int .i64 k, .int .i64 i, .int .i64 j, .int .i64 n, .slice a ks.length c] 24)).alloc (.cells #[.int .i64 k, .int .i64 i', .int .i64 j', .int .i64 n, .slice a2 ks'.length c2] 24)).heap[w.heap.size + 1]? = some (.cells #[.int .i64 k, .int .i64 i', .int .i64 j', .int .i64 n, .slice a2 ks'.length c2] 24 (0, 0))) := Lib.hid (by
    refine ⟨(Lib.alloc_old _ _ _ (by simp)).trans (new_heap _ _ _), ?_⟩
    have := new_heap (w.alloc (.cells #[.int .i64 k, .int .i64 i, .int .i64 j, .int .i64 n, .slice a ks.length c] 24)) #[.int .i64 k, .int .i64 i', .int .i64 j', .int .i64 n, .slice a2 ks'.length c2] 24
    simpa using this)
  have HR : Hid (RepT ((w.alloc (.cells #[.int .i64 k, .int .i64 i, .int .i64 j, .int .i64 n, .slice a ks.length c] 24)).alloc (.cells #[.int .i64 k, .int .i64 i', .int .i64 j', .int .i64 n, .slice a2 ks'.length c2] 24)) ks (.slice a ks.length c) ∧ RepT ((w.alloc (.cells #[.int .i64 k, .int .i64 i, .int .i64 j, .int .i64 n, .slice a ks.length c] 24)).alloc (.cells #[.int .i64 k, .int .i64 i', .int .i64 j', .int .i64 n, .slice a2 ks'.length c2] 24)) ks' (.slice a2 ks'.length c2)) := Lib.hid ⟨h1.kept HB0.out.1, h2.kept HB0.out.1⟩
  have e0 : (k != k) = false := by simp
  have e1 : (n != n) = false := by simp
  have hcase : (k == 2) = false ∨ (k == 2) = true ∧ (i != i') = false := by
    rcases hii with h | h
    · exact .inl h
    · by_cases hk : k = 2
      · exact .inr ⟨by simp [hk], by simp [h]⟩
      · exact .inl (by simp [hk])
  have hll : ((ks.length : Int) != (ks'.length : Int)) = false := by rw [HL.out]; simp
  have HLOOP : Hid True := Lib.hid trivial
  clear hii h1 h2
  unfold termV
  rcases hcase with e2 | ⟨e2, e3⟩
  all_goals
    go_enter Tryd.func11, Tryd.ntmps11
    go_wp2_with fail
    generalize (w.alloc (.cells #[.int .i64 k, .int .i64 i, .int .i64 j, .int .i64 n, .slice a ks.length c] 24)).alloc (.cells #[.int .i64 k, .int .i64 i', .int .i64 j', .int .i64 n, .slice a2 ks'.length c2] 24) = W0 at *
    go_loopw [5] (fun ix wr => ∃ (q : Nat), ix = .int .i64 q ∧ q ≤ ks.length ∧ Below W0.heap.size W0 wr) (fun i _ => ks.length - (intOf i).toNat)
    case atStart => exact ⟨0, rfl, by omega, Below.refl _ _⟩
    case round =>
      obtain ⟨q, rfl, hq, hbel⟩ := hrel
      have hx0 := (hbel.block _ (by have := HB0.out.2; omega)).trans HX.out.1
      have hx1 := (hbel.block _ (by have := HB0.out.2; omega)).trans HX.out.2
      obtain ⟨x0, x1, x2, x3, x4⟩ := box_cells5 hx0
      obtain ⟨y0, y1, y2, y3, y4⟩ := box_cells5 hx1
      have HB := Lib.hid hbel
      have HX0 := Lib.hid (And.intro hx0 hx1)
      clear hx0 hx1
      by_cases hlt : q < ks.length
      · have hlt' : q < ks'.length := by rw [← HL.out]; exact hlt
        obtain ⟨b, o, k1, i1, j1, n1, l1, v1, rfl, _, hbs, hj1, e0', e1', e2', e3', e4', hr1, hk1⟩ := (HR.out.1.kept hbel).at q hlt
        obtain ⟨b2, o2, k2, i2, j2, n2, l2, v2, rfl, _, hbs2, hj2, g0, g1, g2, g3, g4, hr2, hk2⟩ := (HR.out.2.kept hbel).at q hlt'
        have hf : formT (.node k1 i1 j1 n1 l1) (.node k2 i2 j2 n2 l2) = true := by
          obtain ⟨t', ht1, ht2⟩ := form_at HFT.out hj1
          rw [hj2] at ht1
          cases ht1
          exact ht2
        have hm := HN.out _ (List.mem_of_getElem? hj1)
        have HS := Lib.hid (And.intro hf (And.intro hk1 (And.intro hk2 hm)))
        have hz0 : w.heap.size < wr.heap.size := by have := HB0.out.2; have := hbel.size; omega
        have hz1 : w.heap.size + 1 < wr.heap.size := by have := HB0.out.2; have := hbel.size; omega
        clear hk1 hk2 hr1 hr2 hj1 hj2 hbel hf hm hlen2
        go_wp2_with fail
        go_region_held3 (fun w' => w'.cell? ⟨b, o + q * 5, none⟩ = some (.int .i64 k1) ∧ w'.cell? ⟨b, o + q * 5 + 1, none⟩ = some (.int .i64 i1) ∧ w'.cell? ⟨b, o + q * 5 + 2, none⟩ = some (.int .i64 j1) ∧ w'.cell? ⟨b, o + q * 5 + 3, none⟩ = some (.int .i64 n1) ∧ w'.cell? ⟨b, o + q * 5 + 4, none⟩ = some v1 ∧ w'.cell? ⟨b2, o2 + q * 5, none⟩ = some (.int .i64 k2) ∧ w'.cell? ⟨b2, o2 + q * 5 + 1, none⟩ = some (.int .i64 i2) ∧ w'.cell? ⟨b2, o2 + q * 5 + 2, none⟩ = some (.int .i64 j2) ∧ w'.cell? ⟨b2, o2 + q * 5 + 3, none⟩ = some (.int .i64 n2) ∧ w'.cell? ⟨b2, o2 + q * 5 + 4, none⟩ = some v2 ∧ w'.cell? ⟨w.heap.size, 4, none⟩ = some (.slice (some ⟨b, o, none⟩) ks.length c) ∧ w'.cell? ⟨w.heap.size + 1, 4, none⟩ = some (.slice (some ⟨b2, o2, none⟩) ks'.length c2) ∧ Below wr.heap.size wr w')
          (first | exact ⟨e0', e1', e2', e3', e4', g0, g1, g2, g3, g4, x4, y4, Below.refl _ _⟩ | exact ⟨e0', e1', e2', e3', e4', g0, g1, g2, g3, g4, x4, y4, (Below.refl _ _).drew⟩ | exact ⟨q0, q1, q2, q3, q4, m0, m1, m2, m3, m4, z0, z1, kb⟩ | go_keep)
          (first | (go_at_call 11
                    refine (ih k1 i1 j1 n1 k2 i2 j2 n2 l1 l2 v1 v2 _ HS.out.2.2.2 (HS.out.2.1.kept (Below.refl _ _).drew) (HS.out.2.2.1.kept (Below.refl _ _).drew) HS.out.1).mono ?_
                    rintro e w2 ⟨rfl, hb2⟩
                    have q0 := (hb2.cell (p := ⟨b, o + q * 5, none⟩) hbs).trans e0'
                    have q1 := (hb2.cell (p := ⟨b, o + q * 5 + 1, none⟩) hbs).trans e1'
                    have q2 := (hb2.cell (p := ⟨b, o + q * 5 + 2, none⟩) hbs).trans e2'
                    have q3 := (hb2.cell (p := ⟨b, o + q * 5 + 3, none⟩) hbs).trans e3'
                    have q4 := (hb2.cell (p := ⟨b, o + q * 5 + 4, none⟩) hbs).trans e4'
                    have m0 := (hb2.cell (p := ⟨b2, o2 + q * 5, none⟩) hbs2).trans g0
                    have m1 := (hb2.cell (p := ⟨b2, o2 + q * 5 + 1, none⟩) hbs2).trans g1
                    have m2 := (hb2.cell (p := ⟨b2, o2 + q * 5 + 2, none⟩) hbs2).trans g2
                    have m3 := (hb2.cell (p := ⟨b2, o2 + q * 5 + 3, none⟩) hbs2).trans g3
                    have m4 := (hb2.cell (p := ⟨b2, o2 + q * 5 + 4, none⟩) hbs2).trans g4
                    have z0 := (hb2.cell (p := ⟨w.heap.size, 4, none⟩) hz0).trans x4
                    have z1 := (hb2.cell (p := ⟨w.heap.size + 1, 4, none⟩) hz1).trans y4
                    have kb : Below wr.heap.size wr w2 := (Below.refl _ _).drew.trans hb2))
        have KB := Lib.hid kb
        clear q0 q1 q2 q3 q4 m0 m1 m2 m3 m4 z0 z1 kb hb2 e0' e1' e2' e3' e4' g0 g1 g2 g3 g4 x0 x1 x2 x3 x4 y0 y1 y2 y3 y4
        have hsz := HB.out.size
        go_wp2
        go_round
        case rel => exact ⟨q + 1, by go_num, by omega, HB.out.trans (KB.out.mono hsz)⟩
        case measure => simp [intOf]; omega
      · have hql : q = ks.length := by omega
        subst hql
        clear hbel
        go_wp2
        go_ret
        exact ⟨rfl, HB0.out.1.trans (HB.out.mono HB0.out.1.size)⟩
theorem form_all : ∀ N, FormC N
  | 0 => fun _ _ _ _ _ _ _ _ _ _ _ _ _ h => absurd h (Nat.not_lt_zero _)
  | N + 1 => form_step N (form_all N)
theorem law_form (k i j n k' i' j' n' : Int) (ks ks' : List TT) (v v' : Value) (w : World) (h1 : RepT w ks v) (h2 : RepT w ks' v') (h : formT (.node k i j n ks) (.node k' i' j' n' ks') = true) :
    Calls Tryd.prog 11 #[termV k i j n v, termV k' i' j' n' v'] w fun e w' => e = .returned (.bool true) ∧ Below w.heap.size w w' :=
  form_all _ k i j n k' i' j' n' ks ks' v v' w (Nat.lt_succ_self _) h1 h2 h
end Go.Proofs.YtfklmcmoackepaaDoor
