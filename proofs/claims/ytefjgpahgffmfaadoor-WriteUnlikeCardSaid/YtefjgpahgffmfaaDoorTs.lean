/- Walks of transhipkeep.Same, Terms. -/
import Derived.Test.YtefjgpahgffmfaaDoorTw
import Derived.Deep.RegionHeld3
namespace Go.Proofs.YtefjgpahgffmfaaDoor
open Go.RowKit

mutual
def sameT : TT → TT → Bool
  | .node k i j n ks, .node k' i' j' n' ks' => k == k' && i == i' && j == j' && n == n' && sameTs ks ks'
def sameTs : List TT → List TT → Bool
  | [], [] => true
  | k :: ks, l :: ls => sameT k l && sameTs ks ls
  | _, _ => false
end
mutual
theorem sameT_iff : ∀ (a b : TT), sameT a b = true ↔ a = b
  | .node k i j n ks, .node k' i' j' n' ks' => by
    simp only [sameT, Bool.and_eq_true, beq_iff_eq, sameTs_iff ks ks', TT.node.injEq, and_assoc]
theorem sameTs_iff : ∀ (a b : List TT), sameTs a b = true ↔ a = b
  | [], [] => by simp [sameTs]
  | [], _ :: _ => by simp [sameTs]
  | _ :: _, [] => by simp [sameTs]
  | k :: ks, l :: ls => by simp only [sameTs, Bool.and_eq_true, sameT_iff k l, sameTs_iff ks ls, List.cons.injEq]
end
theorem sameTs_ne : ∀ {a b : List TT}, a.length ≠ b.length → sameTs a b = false := by
  intro a b h
  rw [Bool.eq_false_iff]
  intro h2
  exact h (by rw [(sameTs_iff a b).1 h2])
theorem sameTs_drop {a b : List TT} {x : Nat} {k l : TT} (ha : a[x]? = some k) (hb : b[x]? = some l) : sameTs (a.drop x) (b.drop x) = (sameT k l && sameTs (a.drop (x + 1)) (b.drop (x + 1))) := by
  obtain ⟨h1, e1⟩ := List.getElem?_eq_some_iff.1 ha
  obtain ⟨h2, e2⟩ := List.getElem?_eq_some_iff.1 hb
  rw [List.drop_eq_getElem_cons h1, List.drop_eq_getElem_cons h2, e1, e2, sameTs]

/-- the contract of Same at one size -/
def SameC (N : Nat) : Prop := ∀ (k i j n k' i' j' n' : Int) (ks ks' : List TT) (v v' : Value) (w : World), SizeOf.sizeOf (TT.node k i j n ks) < N → RepT w ks v → RepT w ks' v' →
  Calls Tryd.prog 20 #[termV k i j n v, termV k' i' j' n' v'] w fun e w' => e = .returned (.bool (sameT (.node k i j n ks) (.node k' i' j' n' ks'))) ∧ Below w.heap.size w w'

set_option maxRecDepth 100000 in
set_option maxHeartbeats 1000000 in
theorem terms_any (N : Nat) (ih : SameC N) (ks ks' : List TT) (v v' : Value) (w : World) (hN : ∀ k ∈ ks, SizeOf.sizeOf k < N) (h1 : RepT w ks v) (h2 : RepT w ks' v') :
    Calls Tryd.prog 41 #[v, v'] w fun e w' => e = .returned (.bool (sameTs ks ks')) ∧ Below w.heap.size w w' := by
  obtain ⟨hlen, a, c, rfl⟩ := h1.form
  obtain ⟨hlen2, a2, c2, rfl⟩ := h2.form
  unfold maxLen at hlen hlen2
  have HR1 := Lib.hid h1
  have HR2 := Lib.hid h2
  clear h1 h2
  by_cases hl : ks.length = ks'.length
  · have hne : ((ks.length : Int) != (ks'.length : Int)) = false := by simp [hl]
    have HL := Lib.hid hl
    clear hl
    have HN := Lib.hid hN
    clear hN
    go_enter Tryd.func41, Tryd.ntmps41
    go_wp2
    go_loopw [5] (fun ix wr => ∃ (j : Nat), ix = .int .i64 j ∧ j ≤ ks.length ∧ sameTs (ks.drop j) (ks'.drop j) = sameTs ks ks' ∧ Below w.heap.size w wr) (fun i _ => ks.length - (intOf i).toNat)
    case atStart => exact ⟨0, rfl, by omega, rfl, Below.refl _ _⟩
    case round =>
      obtain ⟨j, rfl, hj, hws, hbel⟩ := hrel
      by_cases hlt : j < ks.length
      · have hlt' : j < ks'.length := by rw [← HL.out]; exact hlt
        obtain ⟨b, o, k1, i1, j1, n1, l1, v1, rfl, _, hbs, hj1, e0, e1, e2, e3, e4, hr1, hk1⟩ := (HR1.out.kept hbel).at j hlt
        obtain ⟨b2, o2, k2, i2, j2, n2, l2, v2, rfl, _, hbs2, hj2, g0, g1, g2, g3, g4, hr2, hk2⟩ := (HR2.out.kept hbel).at j hlt'
        have hd := sameTs_drop hj1 hj2
        rw [hws] at hd
        have hm := HN.out _ (List.mem_of_getElem? hj1)
        have HS := Lib.hid (And.intro hd (And.intro hk1 (And.intro hk2 hm)))
        have HB := Lib.hid hbel
        clear hws hk1 hk2 hr1 hr2 hj1 hj2 hbel hd hm hlen2
        go_wp2_with fail
        go_region_held3 (fun w' => w'.cell? ⟨b, o + j * 5, none⟩ = some (.int .i64 k1) ∧ w'.cell? ⟨b, o + j * 5 + 1, none⟩ = some (.int .i64 i1) ∧ w'.cell? ⟨b, o + j * 5 + 2, none⟩ = some (.int .i64 j1) ∧ w'.cell? ⟨b, o + j * 5 + 3, none⟩ = some (.int .i64 n1) ∧ w'.cell? ⟨b, o + j * 5 + 4, none⟩ = some v1 ∧ w'.cell? ⟨b2, o2 + j * 5, none⟩ = some (.int .i64 k2) ∧ w'.cell? ⟨b2, o2 + j * 5 + 1, none⟩ = some (.int .i64 i2) ∧ w'.cell? ⟨b2, o2 + j * 5 + 2, none⟩ = some (.int .i64 j2) ∧ w'.cell? ⟨b2, o2 + j * 5 + 3, none⟩ = some (.int .i64 n2) ∧ w'.cell? ⟨b2, o2 + j * 5 + 4, none⟩ = some v2 ∧ Below wr.heap.size wr w')
          (first | exact ⟨e0, e1, e2, e3, e4, g0, g1, g2, g3, g4, Below.refl _ _⟩ | exact ⟨e0, e1, e2, e3, e4, g0, g1, g2, g3, g4, (Below.refl _ _).drew⟩ | exact ⟨q0, q1, q2, q3, q4, m0, m1, m2, m3, m4, kb⟩ | go_keep)
          (first | (go_at_call 20
                    refine (ih k1 i1 j1 n1 k2 i2 j2 n2 l1 l2 v1 v2 _ HS.out.2.2.2 (HS.out.2.1.kept (Below.refl _ _).drew) (HS.out.2.2.1.kept (Below.refl _ _).drew)).mono ?_
                    rintro e w2 ⟨rfl, hb2⟩
                    have q0 := (hb2.cell (p := ⟨b, o + j * 5, none⟩) hbs).trans e0
                    have q1 := (hb2.cell (p := ⟨b, o + j * 5 + 1, none⟩) hbs).trans e1
                    have q2 := (hb2.cell (p := ⟨b, o + j * 5 + 2, none⟩) hbs).trans e2
                    have q3 := (hb2.cell (p := ⟨b, o + j * 5 + 3, none⟩) hbs).trans e3
                    have q4 := (hb2.cell (p := ⟨b, o + j * 5 + 4, none⟩) hbs).trans e4
                    have m0 := (hb2.cell (p := ⟨b2, o2 + j * 5, none⟩) hbs2).trans g0
                    have m1 := (hb2.cell (p := ⟨b2, o2 + j * 5 + 1, none⟩) hbs2).trans g1
                    have m2 := (hb2.cell (p := ⟨b2, o2 + j * 5 + 2, none⟩) hbs2).trans g2
                    have m3 := (hb2.cell (p := ⟨b2, o2 + j * 5 + 3, none⟩) hbs2).trans g3
                    have m4 := (hb2.cell (p := ⟨b2, o2 + j * 5 + 4, none⟩) hbs2).trans g4
                    have kb : Below wr.heap.size wr w2 := (Below.refl _ _).drew.trans hb2))
        have KB := Lib.hid kb
        clear q0 q1 q2 q3 q4 m0 m1 m2 m3 m4 kb hb2 e0 e1 e2 e3 e4 g0 g1 g2 g3 g4
        have hsz := HB.out.size
        cases hrd : sameT (.node k1 i1 j1 n1 l1) (.node k2 i2 j2 n2 l2)
        · have hfin : sameTs ks ks' = false := by rw [HS.out.1, hrd]; rfl
          have HF := Lib.hid hfin
          clear hfin
          go_wp2
          go_ret
          exact ⟨by rw [HF.out]; rfl, HB.out.trans (KB.out.mono hsz)⟩
        · have hfin : sameTs (ks.drop (j + 1)) (ks'.drop (j + 1)) = sameTs ks ks' := by rw [HS.out.1, hrd]; rfl
          have HF := Lib.hid hfin
          clear hfin
          go_wp2
          go_round
          case rel => exact ⟨j + 1, by go_num, by omega, HF.out, HB.out.trans (KB.out.mono hsz)⟩
          case measure => simp [intOf]; omega
      · have hjl : j = ks.length := by omega
        subst hjl
        have hfin : sameTs ks ks' = true := by rw [← hws, List.drop_length, HL.out, List.drop_length, sameTs]
        have HF := Lib.hid (And.intro hfin hbel)
        clear hws hfin hbel
        go_wp2
        go_ret
        exact ⟨by rw [HF.out.1]; rfl, HF.out.2⟩
  · have hne : ((ks.length : Int) != (ks'.length : Int)) = true := by simp; omega
    have HF := Lib.hid (sameTs_ne hl)
    clear hl hN
    go_enter Tryd.func41, Tryd.ntmps41
    go_wp2
    go_ret
    exact ⟨by rw [HF.out]; rfl, Below.refl _ _⟩

set_option maxRecDepth 100000 in
set_option maxHeartbeats 1000000 in
theorem same_step (N : Nat) (ih : SameC N) : SameC (N + 1) := by
  intro k i j n k' i' j' n' ks ks' v v' w hN h1 h2
  have hN2 : ∀ x ∈ ks, SizeOf.sizeOf x < N := fun x hx => by
    have := List.sizeOf_lt_of_mem hx
    simp at hN
    omega
  clear hN
  obtain ⟨hlen, a, c, rfl⟩ := h1.form
  obtain ⟨hlen2, a2, c2, rfl⟩ := h2.form
  clear hlen hlen2
  have HR := Lib.hid (And.intro h1 h2)
  clear h1 h2
  have HN := Lib.hid hN2
  clear hN2
  unfold termV
  by_cases h0 : k = k'
  case neg =>
    have e0 : (k == k') = false := by simp [h0]
    have HV : Hid (sameT (.node k i j n ks) (.node k' i' j' n' ks') = false) := Lib.hid (by simp [sameT, h0])
    clear h0
    go_enter Tryd.func20, Tryd.ntmps20
    go_wp2
    go_ret
    exact ⟨by rw [HV.out]; rfl, ((Below.refl _ _).alloc (Nat.le_refl _) _).alloc (by simp) _⟩
  subst h0
  by_cases h1 : i = i'
  case neg =>
    have e0 : (k == k) = true := by simp
    have e1 : (i == i') = false := by simp [h1]
    have HV : Hid (sameT (.node k i j n ks) (.node k i' j' n' ks') = false) := Lib.hid (by simp [sameT, h1])
    clear h1
    go_enter Tryd.func20, Tryd.ntmps20
    go_wp2
    go_ret
    exact ⟨by rw [HV.out]; rfl, ((Below.refl _ _).alloc (Nat.le_refl _) _).alloc (by simp) _⟩
  subst h1
  by_cases h2 : j = j'
  case neg =>
    have e0 : (k == k) = true := by simp
    have e1 : (i == i) = true := by simp
    have e2 : (j == j') = false := by simp [h2]
    have HV : Hid (sameT (.node k i j n ks) (.node k i j' n' ks') = false) := Lib.hid (by simp [sameT, h2])
    clear h2
    go_enter Tryd.func20, Tryd.ntmps20
    go_wp2
    go_ret
    exact ⟨by rw [HV.out]; rfl, ((Below.refl _ _).alloc (Nat.le_refl _) _).alloc (by simp) _⟩
  subst h2
  by_cases h3 : n = n'
  case neg =>
    have e0 : (k == k) = true := by simp
    have e1 : (i == i) = true := by simp
    have e2 : (j == j) = true := by simp
    have e3 : (n == n') = false := by simp [h3]
    have HV : Hid (sameT (.node k i j n ks) (.node k i j n' ks') = false) := Lib.hid (by simp [sameT, h3])
    clear h3
    go_enter Tryd.func20, Tryd.ntmps20
    go_wp2
    go_ret
    exact ⟨by rw [HV.out]; rfl, ((Below.refl _ _).alloc (Nat.le_refl _) _).alloc (by simp) _⟩
  subst h3
  have e0 : (k == k) = true := by simp
  have e1 : (i == i) = true := by simp
  have e2 : (j == j) = true := by simp
  have e3 : (n == n) = true := by simp
  have HV : Hid (sameT (.node k i j n ks) (.node k i j n ks') = sameTs ks ks') := Lib.hid (by simp [sameT])
  have HB0 : Hid (Below w.heap.size w ((w.alloc (.cells #[.int .i64 k, .int .i64 i, .int .i64 j, .int .i64 n, .slice a ks.length c] 24)).alloc (.cells #[.int .i64 k, .int .i64 i, .int .i64 j, .int .i64 n, .slice a2 ks'.length c2] 24))) := Lib.hid (((Below.refl _ _).alloc (Nat.le_refl _) _).alloc (by simp) _)
  go_enter Tryd.func20, Tryd.ntmps20
  go_wp2_with fail
  refine (terms_any N ih ks ks' _ _ _ HN.out (HR.out.1.kept HB0.out) (HR.out.2.kept HB0.out)).mono ?_
  rintro e w2 ⟨rfl, hb2⟩
  have HB2 := Lib.hid hb2
  clear hb2
  go_wp2
  go_ret
  exact ⟨by rw [HV.out]; rfl, HB0.out.trans (HB2.out.mono (by simp; omega))⟩

theorem same_all : ∀ N, SameC N
  | 0 => fun _ _ _ _ _ _ _ _ _ _ _ _ _ h => absurd h (Nat.not_lt_zero _)
  | N + 1 => same_step N (same_all N)
theorem same_any (k i j n k' i' j' n' : Int) (ks ks' : List TT) (v v' : Value) (w : World) (h1 : RepT w ks v) (h2 : RepT w ks' v') :
    Calls Tryd.prog 20 #[termV k i j n v, termV k' i' j' n' v'] w fun e w' => e = .returned (.bool (sameT (.node k i j n ks) (.node k' i' j' n' ks'))) ∧ Below w.heap.size w w' :=
  same_all _ k i j n k' i' j' n' ks ks' v v' w (Nat.lt_succ_self _) h1 h2
end Go.Proofs.YtefjgpahgffmfaaDoor
