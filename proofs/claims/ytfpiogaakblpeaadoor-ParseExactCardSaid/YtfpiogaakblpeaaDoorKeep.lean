/- Walks of transhipkeep.Deriv, Derivs, File. -/
import Derived.Test.YtfpiogaakblpeaaDoorRight
import Derived.Deep.RegionHeld3
namespace Go.Proofs.YtfpiogaakblpeaaDoor
open Go.RowKit

mutual
def sameD : DT → DT → Bool
  | .node r i ks, .node r' i' ks' => r == r' && i == i' && sameDs ks ks'
def sameDs : List DT → List DT → Bool
  | [], [] => true
  | k :: ks, l :: ls => sameD k l && sameDs ks ls
  | _, _ => false
end
mutual
theorem sameD_iff : ∀ (a b : DT), sameD a b = true ↔ a = b
  | .node r i ks, .node r' i' ks' => by
    simp only [sameD, Bool.and_eq_true, beq_iff_eq, sameDs_iff ks ks', DT.node.injEq, and_assoc]
theorem sameDs_iff : ∀ (a b : List DT), sameDs a b = true ↔ a = b
  | [], [] => by simp [sameDs]
  | [], _ :: _ => by simp [sameDs]
  | _ :: _, [] => by simp [sameDs]
  | k :: ks, l :: ls => by simp only [sameDs, Bool.and_eq_true, sameD_iff k l, sameDs_iff ks ls, List.cons.injEq]
end
theorem sameDs_ne : ∀ {a b : List DT}, a.length ≠ b.length → sameDs a b = false := by
  intro a b h
  rw [Bool.eq_false_iff]
  intro h2
  exact h (by rw [(sameDs_iff a b).1 h2])
theorem sameDs_drop {a b : List DT} {j : Nat} {k l : DT} (ha : a[j]? = some k) (hb : b[j]? = some l) : sameDs (a.drop j) (b.drop j) = (sameD k l && sameDs (a.drop (j + 1)) (b.drop (j + 1))) := by
  obtain ⟨h1, e1⟩ := List.getElem?_eq_some_iff.1 ha
  obtain ⟨h2, e2⟩ := List.getElem?_eq_some_iff.1 hb
  rw [List.drop_eq_getElem_cons h1, List.drop_eq_getElem_cons h2, e1, e2, sameDs]

/-- the contract of Deriv at one size -/
def KeepD (N : Nat) : Prop := ∀ (r i r' i' : Int) (ks ks' : List DT) (v v' : Value) (w : World), SizeOf.sizeOf (DT.node r i ks) < N → RepK w ks v → RepK w ks' v' →
  Calls Tryd.prog 20 #[derivV r i v, derivV r' i' v'] w fun e w' => e = .returned (.bool (sameD (.node r i ks) (.node r' i' ks'))) ∧ Below w.heap.size w w'

set_option maxRecDepth 100000 in
set_option maxHeartbeats 1000000 in
theorem keepDs_any (N : Nat) (ih : KeepD N) (ks ks' : List DT) (v v' : Value) (w : World) (hN : ∀ k ∈ ks, SizeOf.sizeOf k < N) (h1 : RepK w ks v) (h2 : RepK w ks' v') :
    Calls Tryd.prog 38 #[v, v'] w fun e w' => e = .returned (.bool (sameDs ks ks')) ∧ Below w.heap.size w w' := by
  obtain ⟨hlen, a, c, rfl⟩ := h1.form
  obtain ⟨hlen2, a2, c2, rfl⟩ := h2.form
  unfold maxLen at hlen hlen2
  have HR1 := Lib.hid h1
  have HR2 := Lib.hid h2
  clear h1 h2
  by_cases hl : ks.length = ks'.length
  · have hne : ((ks.length : Int) != (ks'.length : Int)) = false := by simp [hl]
    have HL := Lib.hid hl
    clear hl
    have HN := Lib.hid hN
    clear hN
    go_enter Tryd.func38, Tryd.ntmps38
    go_wp2
    go_loopw [5] (fun ix wr => ∃ (j : Nat), ix = .int .i64 j ∧ j ≤ ks.length ∧ sameDs (ks.drop j) (ks'.drop j) = sameDs ks ks' ∧ Below w.heap.size w wr) (fun i _ => ks.length - (intOf i).toNat)
    case atStart => exact ⟨0, rfl, by omega, rfl, Below.refl _ _⟩
    case round =>
      obtain ⟨j, rfl, hj, hws, hbel⟩ := hrel
      by_cases hlt : j < ks.length
      · have hlt' : j < ks'.length := by rw [← HL.out]; exact hlt
        obtain ⟨b, o, r1, i1, l1, v1, rfl, _, hbs, hj1, e0, e1, e2, hr1, hi1, hk1⟩ := (HR1.out.kept hbel).at j hlt
        obtain ⟨b2, o2, r2, i2, l2, v2, rfl, _, hbs2, hj2, g0, g1, g2, hr2, hi2, hk2⟩ := (HR2.out.kept hbel).at j hlt'
        have hd := sameDs_drop hj1 hj2
        rw [hws] at hd
        have hm := HN.out _ (List.mem_of_getElem? hj1)
        have HS := Lib.hid (And.intro hd (And.intro hk1 (And.intro hk2 hm)))
        have HB := Lib.hid hbel
        clear hws hk1 hk2 hr1 hi1 hr2 hi2 hj1 hj2 hbel hd hm hlen2
        go_wp2_with fail
        go_region_held3 (fun w' => w'.cell? ⟨b, o + j * 3, none⟩ = some (.int .i64 r1) ∧ w'.cell? ⟨b, o + j * 3 + 1, none⟩ = some (.int .i64 i1) ∧ w'.cell? ⟨b, o + j * 3 + 2, none⟩ = some v1 ∧ w'.cell? ⟨b2, o2 + j * 3, none⟩ = some (.int .i64 r2) ∧ w'.cell? ⟨b2, o2 + j * 3 + 1, none⟩ = some (.int .i64 i2) ∧ w'.cell? ⟨b2, o2 + j * 3 + 2, none⟩ = some v2 ∧ Below wr.heap.size wr w')
          (first | exact ⟨e0, e1, e2, g0, g1, g2, Below.refl _ _⟩ | exact ⟨e0, e1, e2, g0, g1, g2, (Below.refl _ _).drew⟩ | exact ⟨k0, k1, k2, m0, m1, m2, kb⟩ | go_keep)
          (first | (go_at_call 20
                    refine (ih r1 i1 r2 i2 l1 l2 v1 v2 _ HS.out.2.2.2 (HS.out.2.1.kept (Below.refl _ _).drew) (HS.out.2.2.1.kept (Below.refl _ _).drew)).mono ?_
                    rintro e w2 ⟨rfl, hb2⟩
                    have k0 := (hb2.cell (p := ⟨b, o + j * 3, none⟩) hbs).trans e0
                    have k1 := (hb2.cell (p := ⟨b, o + j * 3 + 1, none⟩) hbs).trans e1
                    have k2 := (hb2.cell (p := ⟨b, o + j * 3 + 2, none⟩) hbs).trans e2
                    have m0 := (hb2.cell (p := ⟨b2, o2 + j * 3, none⟩) hbs2).trans g0
                    have m1 := (hb2.cell (p := ⟨b2, o2 + j * 3 + 1, none⟩) hbs2).trans g1
                    have m2 := (hb2.cell (p := ⟨b2, o2 + j * 3 + 2, none⟩) hbs2).trans g2
                    have kb : Below wr.heap.size wr w2 := (Below.refl _ _).drew.trans hb2))
        have KB := Lib.hid kb
        clear k0 k1 k2 m0 m1 m2 kb hb2 e0 e1 e2 g0 g1 g2
        have hsz := HB.out.size
        cases hrd : sameD (.node r1 i1 l1) (.node r2 i2 l2)
        · have hfin : sameDs ks ks' = false := by rw [HS.out.1, hrd]; rfl
          have HF := Lib.hid hfin
          clear hfin
          go_wp2
          go_ret
          exact ⟨by rw [HF.out]; rfl, HB.out.trans (KB.out.mono hsz)⟩
        · have hfin : sameDs (ks.drop (j + 1)) (ks'.drop (j + 1)) = sameDs ks ks' := by rw [HS.out.1, hrd]; rfl
          have HF := Lib.hid hfin
          clear hfin
          go_wp2
          go_round
          case rel => exact ⟨j + 1, by go_num, by omega, HF.out, HB.out.trans (KB.out.mono hsz)⟩
          case measure => simp [intOf]; omega
      · have hjl : j = ks.length := by omega
        subst hjl
        have hfin : sameDs ks ks' = true := by rw [← hws, List.drop_length, HL.out, List.drop_length, sameDs]
        have HF := Lib.hid (And.intro hfin hbel)
        clear hws hfin hbel
        go_wp2
        go_ret
        exact ⟨by rw [HF.out.1]; rfl, HF.out.2⟩
  · have hne : ((ks.length : Int) != (ks'.length : Int)) = true := by simp; omega
    have HF := Lib.hid (sameDs_ne hl)
    clear hl hN
    go_enter Tryd.func38, Tryd.ntmps38
    go_wp2
    go_ret
    exact ⟨by rw [HF.out]; rfl, Below.refl _ _⟩

set_option maxRecDepth 100000 in
set_option maxHeartbeats 1000000 in
theorem keepD_step (N : Nat) (ih : KeepD N) : KeepD (N + 1) := by
  intro r i r' i' ks ks' v v' w hN h1 h2
  have hN2 : ∀ k ∈ ks, SizeOf.sizeOf k < N := fun k hk => by
    have := List.sizeOf_lt_of_mem hk
    simp at hN
    omega
  clear hN
  obtain ⟨hlen, a, c, rfl⟩ := h1.form
  obtain ⟨hlen2, a2, c2, rfl⟩ := h2.form
  clear hlen hlen2
  have HR := Lib.hid (And.intro h1 h2)
  clear h1 h2
  have HN := Lib.hid hN2
  clear hN2
  unfold derivV
  by_cases hr : r = r'
  · subst hr
    by_cases hi : i = i'
    · subst hi
      have hrr : (r == r) = true := by simp
      have hii : (i == i) = true := by simp
      have HV : Hid (sameD (.node r i ks) (.node r i ks') = sameDs ks ks') := Lib.hid (by simp [sameD])
      have hb0 : Below w.heap.size w ((w.alloc (.cells #[.int .i64 r, .int .i64 i, .slice a ks.length c] 24)).alloc (.cells #[.int .i64 r, .int .i64 i, .slice a2 ks'.length c2] 24)) :=
        ((Below.refl _ _).alloc (Nat.le_refl _) _).alloc (by simp) _
      have HB0 := Lib.hid hb0
      clear hb0
      go_enter Tryd.func20, Tryd.ntmps20
      go_wp2_with fail
      refine (keepDs_any N ih ks ks' _ _ _ HN.out (HR.out.1.kept HB0.out) (HR.out.2.kept HB0.out)).mono ?_
      rintro e w2 ⟨rfl, hb2⟩
      have HB2 := Lib.hid hb2
      clear hb2
      go_wp2
      go_ret
      exact ⟨by rw [HV.out]; rfl, HB0.out.trans (HB2.out.mono (by simp; omega))⟩
    · have hrr : (r == r) = true := by simp
      have hii : (i == i') = false := by simp [hi]
      have HV : Hid (sameD (.node r i ks) (.node r i' ks') = false) := Lib.hid (by simp [sameD, hi])
      clear hi
      go_enter Tryd.func20, Tryd.ntmps20
      go_wp2
      go_ret
      exact ⟨by rw [HV.out]; rfl, ((Below.refl _ _).alloc (Nat.le_refl _) _).alloc (by simp) _⟩
  · have hrr : (r == r') = false := by simp [hr]
    have HV : Hid (sameD (.node r i ks) (.node r' i' ks') = false) := Lib.hid (by simp [sameD, hr])
    clear hr
    go_enter Tryd.func20, Tryd.ntmps20
    go_wp2
    go_ret
    exact ⟨by rw [HV.out]; rfl, ((Below.refl _ _).alloc (Nat.le_refl _) _).alloc (by simp) _⟩

theorem keepD_all : ∀ N, KeepD N
  | 0 => fun _ _ _ _ _ _ _ _ _ h => absurd h (Nat.not_lt_zero _)
  | N + 1 => keepD_step N (keepD_all N)
theorem keepD_any (r i r' i' : Int) (ks ks' : List DT) (v v' : Value) (w : World) (h1 : RepK w ks v) (h2 : RepK w ks' v') :
    Calls Tryd.prog 20 #[derivV r i v, derivV r' i' v'] w fun e w' => e = .returned (.bool (sameD (.node r i ks) (.node r' i' ks'))) ∧ Below w.heap.size w w' :=
  keepD_all _ r i r' i' ks ks' v v' w (Nat.lt_succ_self _) h1 h2
end Go.Proofs.YtfpiogaakblpeaaDoor
