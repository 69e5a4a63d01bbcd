/- Walks of transhipref04.Kids, node, Plain, Marked, Right. -/
import Derived.Test.YtfklmcmoackepaaDoorTnu
import Derived.Test.YtfklmcmoackepaaDoorTs
namespace Go.Proofs.YtfklmcmoackepaaDoor
open Go.RowKit

def takesTab : List Nat := [5, 5, 4, 6, 4, 4, 5, 4, 5, 4, 4, 6, 6, 6, 9, 12, 12, 9, 9, 9, 6]
def takesBlock : Array Value := #[.int .i64 5, .int .i64 5, .int .i64 4, .int .i64 6, .int .i64 4, .int .i64 4, .int .i64 5, .int .i64 4, .int .i64 5, .int .i64 4, .int .i64 4, .int .i64 6, .int .i64 6, .int .i64 6, .int .i64 9, .int .i64 12, .int .i64 12, .int .i64 9, .int .i64 9, .int .i64 9, .int .i64 6]
theorem takes_cell (w : World) (t : TypeId) (m : Nat) (h : m < 21) : (w.alloc (.cells takesBlock t)).cell? ⟨w.heap.size, m, none⟩ = some (.int .i64 (takesTab.getD m 0 : Nat)) := by
  have e : (w.alloc (.cells takesBlock t)).cell? ⟨w.heap.size, m, none⟩ = takesBlock[m]? := by simp [go_sem]
  rw [e]
  match m, h with
  | 0, _ | 1, _ | 2, _ | 3, _ | 4, _ | 5, _ | 6, _ | 7, _ | 8, _ | 9, _ | 10, _ | 11, _ | 12, _ | 13, _ | 14, _ | 15, _ | 16, _ | 17, _ | 18, _ | 19, _ | 20, _ => rfl
  | k + 21, h => exact absurd h (by omega)
theorem takes_tab (m : Nat) (h : m < 21) : takesK ((m : Int) + 1) = (takesTab.getD m 0 : Nat) := by
  match m, h with
  | 0, _ | 1, _ | 2, _ | 3, _ | 4, _ | 5, _ | 6, _ | 7, _ | 8, _ | 9, _ | 10, _ | 11, _ | 12, _ | 13, _ | 14, _ | 15, _ | 16, _ | 17, _ | 18, _ | 19, _ | 20, _ => rfl
  | k + 21, h => exact absurd h (by omega)
theorem takes_no {n : Int} (h : n < 1 ∨ 21 < n) : takesK n = -1 := by
  unfold takesK
  repeat (rw [if_neg (by omega)])
set_option maxRecDepth 100000 in
set_option maxHeartbeats 4000000 in
theorem rkids04_any (k n : Int) (w : World) : Calls Tryd.prog 12 #[.int .i64 k, .int .i64 n] w fun e w' => e = .returned (.int .i64 (kidsK k n)) ∧ Below w.heap.size w w' := by
  by_cases hA : k = 1 ∨ k = 2 ∨ k = 18 ∨ k = 19 ∨ k = 3 ∨ k = 6 ∨ k = 13 ∨ k = 14 ∨ k = 15 ∨ k = 16 ∨ k = 21 ∨ k = 11 ∨ k = 4 ∨ k = 8 ∨ k = 9 ∨ k = 10 ∨ k = 20 ∨ k = 5 ∨ k = 7 ∨ k = 12 ∨ k = 17 ∨ k = 22
  · rcases hA with rfl | rfl | rfl | rfl | rfl | rfl | rfl | rfl | rfl | rfl | rfl | rfl | rfl | rfl | rfl | rfl | rfl | rfl | rfl | rfl | rfl | rfl
    all_goals
      go_enter Tryd.func12, Tryd.ntmps12
      go_wp2
      go_ret
      exact ⟨rfl, Below.refl _ _⟩
  by_cases h23 : k = 23
  · subst h23
    clear hA
    have HV : Hid (kidsK 23 n = takesK n) := Lib.hid rfl
    by_cases hn : 1 ≤ n ∧ n ≤ 21
    · obtain ⟨m, hm, en⟩ : ∃ m : Nat, m < 21 ∧ n - 1 = (m : Int) := ⟨(n - 1).toNat, by omega, by omega⟩
      have e1 : decide (1 ≤ n) = true := by simp; omega
      have e2 : decide (n ≤ 21) = true := by simp; omega
      have n1 : -9223372036854775808 ≤ n := by omega
      have n2 : n ≤ 9223372036854775807 := by omega
      have HV2 : Hid (kidsK 23 n = (takesTab.getD m 0 : Nat)) := Lib.hid (by rw [HV.out, ← takes_tab m hm]; congr 1; omega)
      have hcell := takes_cell w 3 m hm
      unfold takesBlock at hcell
      generalize takesTab.getD m 0 = q at hcell HV2
      clear hn
      go_enter Tryd.func12, Tryd.ntmps12
      go_wp2
      go_ret
      exact ⟨by rw [HV2.out]; rfl, below_alloc _ _⟩
    · have HV2 : Hid (kidsK 23 n = -1) := Lib.hid (by rw [HV.out, takes_no (by omega)])
      by_cases h1 : 1 ≤ n
      · have e1 : decide (1 ≤ n) = true := by simp; omega
        have e2 : decide (n ≤ 21) = false := by simp; omega
        have e3 : ¬ (n ≤ 21) := by omega
        clear hn
        go_enter Tryd.func12, Tryd.ntmps12
        go_wp2
        go_ret
        exact ⟨by rw [HV2.out]; rfl, below_alloc _ _⟩
      · have e1 : decide (1 ≤ n) = false := by simp; omega
        clear hn
        go_enter Tryd.func12, Tryd.ntmps12
        go_wp2
        go_ret
        exact ⟨by rw [HV2.out]; rfl, below_alloc _ _⟩
  · have HV : Hid (kidsK k n = -1) := Lib.hid (by unfold kidsK; repeat (rw [if_neg (by omega)]))
    have e1 : (k == 1) = false := by simp; omega
    have e2 : (k == 2) = false := by simp; omega
    have e3 : (k == 3) = false := by simp; omega
    have e4 : (k == 4) = false := by simp; omega
    have e5 : (k == 5) = false := by simp; omega
    have e6 : (k == 6) = false := by simp; omega
    have e7 : (k == 7) = false := by simp; omega
    have e8 : (k == 8) = false := by simp; omega
    have e9 : (k == 9) = false := by simp; omega
    have e10 : (k == 10) = false := by simp; omega
    have e11 : (k == 11) = false := by simp; omega
    have e12 : (k == 12) = false := by simp; omega
    have e13 : (k == 13) = false := by simp; omega
    have e14 : (k == 14) = false := by simp; omega
    have e15 : (k == 15) = false := by simp; omega
    have e16 : (k == 16) = false := by simp; omega
    have e17 : (k == 17) = false := by simp; omega
    have e18 : (k == 18) = false := by simp; omega
    have e19 : (k == 19) = false := by simp; omega
    have e20 : (k == 20) = false := by simp; omega
    have e21 : (k == 21) = false := by simp; omega
    have e22 : (k == 22) = false := by simp; omega
    have e23 : (k == 23) = false := by simp; omega
    clear hA h23
    go_enter Tryd.func12, Tryd.ntmps12
    go_wp2
    go_ret
    exact ⟨by rw [HV.out]; rfl, Below.refl _ _⟩

set_option maxRecDepth 100000 in
set_option maxHeartbeats 4000000 in
theorem rnode_any (k i j n : Int) (ks : List TT) (v : Value) (w : World) (hrep : RepT w ks v) :
    Calls Tryd.prog 26 #[termV k i j n v] w fun e w' => e = .returned (.bool ((ks.length : Int) == kidsK k n && numbersB k i j n)) ∧ Below w.heap.size w w' := by
  obtain ⟨hlen, a, c, rfl⟩ := hrep.form
  unfold maxLen at hlen
  clear hrep
  unfold termV
  have hq : ((ks.length : Int) == kidsK k n) = true ∨ ((ks.length : Int) == kidsK k n) = false := by cases ((ks.length : Int) == kidsK k n) <;> simp
  have HK : Hid (∀ w', Calls Tryd.prog 12 #[.int .i64 k, .int .i64 n] w' fun e w'' => e = .returned (.int .i64 (kidsK k n)) ∧ Below w'.heap.size w' w'') := Lib.hid (rkids04_any k n)
  have HN : Hid (∀ w', Calls Tryd.prog 40 #[.agg #[.int .i64 k, .int .i64 i, .int .i64 j, .int .i64 n, .slice a ks.length c]] w' fun e w'' => e = .returned (.bool (numbersB k i j n)) ∧ Below w'.heap.size w' w'') := Lib.hid (rnumbers_any k i j n a ks.length c)
  generalize numbersB k i j n = nb at HN
  generalize kidsK k n = kk at hq HK
  rcases hq with hq | hq
  all_goals
    go_enter Tryd.func26, Tryd.ntmps26
    go_wp2_with fail
    obtain ⟨σ, f, hnem, hf, hcov⟩ := fam (w.heap.size + 1) (w.alloc (.cells #[.int .i64 k, .int .i64 i, .int .i64 j, .int .i64 n, .slice a ks.length c] 24)) (by simp)
    have hc0 : ∀ s, (f s).cell? ⟨w.heap.size, 0, none⟩ = some (.int .i64 k) := fun s => box_cell (hf s).1 0 (by simp)
    have hc1 : ∀ s, (f s).cell? ⟨w.heap.size, 1, none⟩ = some (.int .i64 i) := fun s => box_cell (hf s).1 1 (by simp)
    have hc2 : ∀ s, (f s).cell? ⟨w.heap.size, 2, none⟩ = some (.int .i64 j) := fun s => box_cell (hf s).1 2 (by simp)
    have hc3 : ∀ s, (f s).cell? ⟨w.heap.size, 3, none⟩ = some (.int .i64 n) := fun s => box_cell (hf s).1 3 (by simp)
    have hc4 : ∀ s, (f s).cell? ⟨w.heap.size, 4, none⟩ = some (.slice a ks.length c) := fun s => box_cell (hf s).1 4 (by simp)
    have HF := Lib.hid hf
    have HCOV := Lib.hid hcov
    clear hf hcov
    refine wp_region_fam_lit f (by kernel_rfl) (by kernel_rfl) (HCOV.out _ (Below.refl _ _).drew) ?_
    repeat (go_big_quiet_step ((first
      | (go_at_call 12; exact calls_fam HF.out HCOV.out (HK.out _))
      | (go_at_call 40; exact calls_fam HF.out HCOV.out (HN.out _)))))
    refine wpQuiet_nil ?_
    rintro _ ⟨s, rfl⟩
    go_wp2
    go_ret
    exact ⟨by first | rfl | (rw [hq]; rfl), below_of_box (by simpa using (HF.out s).1)⟩

theorem plainTs_cons : ∀ {ks : List TT} {y : Nat} {t : TT}, ks[y]? = some t → plainTs (ks.drop y) = (plainT t && plainTs (ks.drop (y + 1)))
  | [], y, t, h => by simp at h
  | k :: ks, 0, t, h => by simp at h; subst h; simp [plainTs]
  | k :: ks, y + 1, t, h => by simpa using plainTs_cons (ks := ks) (y := y) (by simpa using h)
theorem markedTs_cons {k : Int} : ∀ {ks : List TT} {x y : Nat} {t : TT}, ks[y]? = some t → markedTs k (x + y) (ks.drop y) = ((if k = 12 ∧ x + y = 2 then plainT t else markedT t) && markedTs k (x + (y + 1)) (ks.drop (y + 1)))
  | [], x, y, t, h => by simp at h
  | u :: ks, x, 0, t, h => by simp at h; subst h; simp [markedTs]
  | u :: ks, x, y + 1, t, h => by
    have := markedTs_cons (k := k) (ks := ks) (x := x + 1) (y := y) (by simpa using h)
    simpa [Nat.add_assoc, Nat.add_comm 1] using this

set_option maxRecDepth 100000 in
set_option maxHeartbeats 4000000 in
theorem rplain_any : ∀ (N : Nat) (k i j n : Int) (ks : List TT) (v : Value) (w : World), SizeOf.sizeOf (TT.node k i j n ks) < N → RepT w ks v →
    Calls Tryd.prog 14 #[termV k i j n v] w fun e w' => e = .returned (.bool (plainT (.node k i j n ks))) ∧ Below w.heap.size w w' := by
  intro N
  induction N with
  | zero => intro k i j n ks v w h; omega
  | succ N ih =>
    intro k i j n ks v w hN hrep
    obtain ⟨hlen, a, c, rfl⟩ := hrep.form
    unfold maxLen at hlen
    have HR := Lib.hid hrep
    clear hrep
    unfold termV
    by_cases hk : k = 1 ∨ k = 2 ∨ 13 ≤ k ∧ k ≤ 23
    · have HV : Hid (plainT (.node k i j n ks) = (((ks.length : Int) == kidsK k n && numbersB k i j n) && plainTs ks)) := Lib.hid (by
        have : (k == 1 || k == 2 || (decide (13 ≤ k) && decide (k ≤ 23))) = true := by simp; omega
        simp only [plainT, this, Bool.true_and])
      generalize plainT (.node k i j n ks) = pt at HV
      have hq : (k != 1) = false ∨ (k != 1) = true ∧ (k != 2) = false ∨ (k != 1) = true ∧ (k != 2) = true ∧ decide (k < 13) = false ∧ decide (23 < k) = false := by
        by_cases h1 : k = 1
        · exact .inl (by simp [h1])
        · by_cases h2 : k = 2
          · exact .inr (.inl ⟨by simp [h1], by simp [h2]⟩)
          · exact .inr (.inr ⟨by simp [h1], by simp [h2], by simp; omega, by simp; omega⟩)
      clear hk
      rcases hq with g1 | ⟨g1, g2⟩ | ⟨g1, g2, g3, g4⟩
      all_goals
        go_enter Tryd.func14, Tryd.ntmps14
        go_wp2_with fail
        refine (rnode_any k i j n ks _ _ (HR.out.kept (below_alloc _ _))).mono ?_
        rintro e w1 ⟨rfl, hb1⟩
        have HFS : Hid (Below (w.heap.size + 1) (w.alloc (.cells #[.int .i64 k, .int .i64 i, .int .i64 j, .int .i64 n, .slice a ks.length c] 24)) w1) := Lib.hid (by simpa using hb1)
        clear hb1
        cases hnb : ((ks.length : Int) == kidsK k n && numbersB k i j n)
        · have HW : Hid (pt = false) := Lib.hid (by rw [HV.out, hnb]; rfl)
          clear hnb
          go_wp2
          go_ret
          exact ⟨by rw [HW.out]; rfl, below_of_box HFS.out⟩
        have HW : Hid (pt = plainTs ks) := Lib.hid (by rw [HV.out, hnb]; rfl)
        clear hnb HV
        have c0 : w1.cell? ⟨w.heap.size, 0, none⟩ = some (.int .i64 k) := by rw [box_cell HFS.out 0 (by simp)]; rfl
        have c1 : w1.cell? ⟨w.heap.size, 1, none⟩ = some (.int .i64 i) := by rw [box_cell HFS.out 1 (by simp)]; rfl
        have c2 : w1.cell? ⟨w.heap.size, 2, none⟩ = some (.int .i64 j) := by rw [box_cell HFS.out 2 (by simp)]; rfl
        have c3 : w1.cell? ⟨w.heap.size, 3, none⟩ = some (.int .i64 n) := by rw [box_cell HFS.out 3 (by simp)]; rfl
        have c4 : w1.cell? ⟨w.heap.size, 4, none⟩ = some (.slice a ks.length c) := by rw [box_cell HFS.out 4 (by simp)]; rfl
        simp only
        go_wp2_with fail
        clear c0 c1 c2 c3 c4
        go_loopw [3] (fun ix wr => ∃ (q : Nat), ix = .int .i64 q ∧ q ≤ ks.length ∧ plainTs (ks.drop q) = plainTs ks ∧ Below (w.heap.size + 1) (w.alloc (.cells #[.int .i64 k, .int .i64 i, .int .i64 j, .int .i64 n, .slice a ks.length c] 24)) wr) (fun x _ => ks.length - (intOf x).toNat)
        case atStart => exact ⟨0, rfl, by omega, rfl, HFS.out⟩
        case round =>
          obtain ⟨q, rfl, hq, hws, hbel⟩ := hrel
          have hB := below_of_box hbel
          have hsz : w.heap.size + 1 ≤ wr.heap.size := by simpa using hbel.size
          have c0 : wr.cell? ⟨w.heap.size, 0, none⟩ = some (.int .i64 k) := by rw [box_cell hbel 0 (by simp)]; rfl
          have c1 : wr.cell? ⟨w.heap.size, 1, none⟩ = some (.int .i64 i) := by rw [box_cell hbel 1 (by simp)]; rfl
          have c2 : wr.cell? ⟨w.heap.size, 2, none⟩ = some (.int .i64 j) := by rw [box_cell hbel 2 (by simp)]; rfl
          have c3 : wr.cell? ⟨w.heap.size, 3, none⟩ = some (.int .i64 n) := by rw [box_cell hbel 3 (by simp)]; rfl
          have c4 : wr.cell? ⟨w.heap.size, 4, none⟩ = some (.slice a ks.length c) := by rw [box_cell hbel 4 (by simp)]; rfl
          by_cases hlt : q < ks.length
          · obtain ⟨b, o, k1, i1, j1, n1, l1, v1, rfl, _, hbs, hj1, e0, e1, e2, e3, e4, hr1, hk1⟩ := (HR.out.kept hB).at q hlt
            obtain ⟨hl1, a1, c1, rfl⟩ := hk1.form
            clear hl1
            have hlt1 := TT.lt hj1 k i j n
            have hd := plainTs_cons hj1
            rw [hws] at hd
            have HS := Lib.hid (And.intro hd hk1)
            have HB := Lib.hid (And.intro hbel hB)
            clear hws hk1 hr1 hj1 hbel hB hd
            go_wp2_with fail
            refine (ih k1 i1 j1 n1 l1 _ _ (by omega) HS.out.2).mono ?_
            rintro e w2 ⟨rfl, hb2⟩
            have HB2 := Lib.hid (hb2.mono hsz)
            clear hb2
            cases hrd : plainT (.node k1 i1 j1 n1 l1)
            · have hfin : plainTs ks = false := by rw [HS.out.1, hrd]; rfl
              have HF := Lib.hid hfin
              clear hfin
              go_wp2
              go_ret
              exact ⟨by rw [HW.out, HF.out]; rfl, HB.out.2.trans (HB2.out.mono (Nat.le_succ _))⟩
            · have hfin : plainTs (ks.drop (q + 1)) = plainTs ks := by rw [HS.out.1, hrd]; rfl
              have HF := Lib.hid hfin
              clear hfin
              go_wp2
              go_roundw
              case rel => exact ⟨q + 1, by go_num, by omega, HF.out, HB.out.1.trans HB2.out⟩
              case measure => simp [intOf]; omega
          · have hjl : q = ks.length := by omega
            subst hjl
            have hfin : plainTs ks = true := by rw [← hws, List.drop_length, plainTs]
            have HF := Lib.hid (And.intro hfin hB)
            clear hws hfin hbel hB
            go_wp2
            go_ret
            exact ⟨by rw [HW.out, HF.out.1]; rfl, HF.out.2⟩
    · have HV : Hid (plainT (.node k i j n ks) = false) := Lib.hid (by
        have : (k == 1 || k == 2 || (decide (13 ≤ k) && decide (k ≤ 23))) = false := by simp; omega
        simp only [plainT, this, Bool.false_and])
      have g1 : (k != 1) = true := by simp; omega
      have g2 : (k != 2) = true := by simp; omega
      have hq : decide (k < 13) = true ∨ decide (k < 13) = false ∧ decide (23 < k) = true := by
        by_cases h1 : k < 13
        · exact .inl (by simp [h1])
        · exact .inr ⟨by simp [h1], by simp; omega⟩
      clear hk
      rcases hq with g3 | ⟨g3, g4⟩
      all_goals
        go_enter Tryd.func14, Tryd.ntmps14
        go_wp2
        go_ret
        exact ⟨by rw [HV.out]; rfl, below_alloc _ _⟩

set_option maxRecDepth 100000 in
set_option maxHeartbeats 4000000 in
theorem rmarked_any : ∀ (N : Nat) (k i j n : Int) (ks : List TT) (v : Value) (w : World), SizeOf.sizeOf (TT.node k i j n ks) < N → RepT w ks v →
    Calls Tryd.prog 41 #[termV k i j n v] w fun e w' => e = .returned (.bool (markedT (.node k i j n ks))) ∧ Below w.heap.size w w' := by
  intro N
  induction N with
  | zero => intro k i j n ks v w h; omega
  | succ N ih =>
    intro k i j n ks v w hN hrep
    obtain ⟨hlen, a, c, rfl⟩ := hrep.form
    unfold maxLen at hlen
    have HR := Lib.hid hrep
    clear hrep
    unfold termV
    by_cases hk : 1 ≤ k ∧ k ≤ 12
    · have HV : Hid (markedT (.node k i j n ks) = (((ks.length : Int) == kidsK k n && numbersB k i j n) && markedTs k 0 ks)) := Lib.hid (by
        have h1 : decide (1 ≤ k) = true := by simp; omega
        have h2 : decide (k ≤ 12) = true := by simp; omega
        simp only [markedT, h1, h2, Bool.true_and])
      generalize markedT (.node k i j n ks) = pt at HV
      have g1 : decide (k < 1) = false := by simp; omega
      have g2 : decide (12 < k) = false := by simp; omega
      clear hk
      go_enter Tryd.func41, Tryd.ntmps41
      go_wp2_with fail
      refine (rnode_any k i j n ks _ _ (HR.out.kept (below_alloc _ _))).mono ?_
      rintro e w1 ⟨rfl, hb1⟩
      have HFS : Hid (Below (w.heap.size + 1) (w.alloc (.cells #[.int .i64 k, .int .i64 i, .int .i64 j, .int .i64 n, .slice a ks.length c] 24)) w1) := Lib.hid (by simpa using hb1)
      clear hb1
      cases hnb : ((ks.length : Int) == kidsK k n && numbersB k i j n)
      · have HW : Hid (pt = false) := Lib.hid (by rw [HV.out, hnb]; rfl)
        clear hnb
        go_wp2
        go_ret
        exact ⟨by rw [HW.out]; rfl, below_of_box HFS.out⟩
      have HW : Hid (pt = markedTs k 0 ks) := Lib.hid (by rw [HV.out, hnb]; rfl)
      clear hnb HV
      have c0 : w1.cell? ⟨w.heap.size, 0, none⟩ = some (.int .i64 k) := by rw [box_cell HFS.out 0 (by simp)]; rfl
      have c1 : w1.cell? ⟨w.heap.size, 1, none⟩ = some (.int .i64 i) := by rw [box_cell HFS.out 1 (by simp)]; rfl
      have c2 : w1.cell? ⟨w.heap.size, 2, none⟩ = some (.int .i64 j) := by rw [box_cell HFS.out 2 (by simp)]; rfl
      have c3 : w1.cell? ⟨w.heap.size, 3, none⟩ = some (.int .i64 n) := by rw [box_cell HFS.out 3 (by simp)]; rfl
      have c4 : w1.cell? ⟨w.heap.size, 4, none⟩ = some (.slice a ks.length c) := by rw [box_cell HFS.out 4 (by simp)]; rfl
      simp only
      go_wp2_with fail
      clear c0 c1 c2 c3 c4
      go_loopw [3] (fun ix wr => ∃ (q : Nat), ix = .int .i64 q ∧ q ≤ ks.length ∧ markedTs k q (ks.drop q) = markedTs k 0 ks ∧ Below (w.heap.size + 1) (w.alloc (.cells #[.int .i64 k, .int .i64 i, .int .i64 j, .int .i64 n, .slice a ks.length c] 24)) wr) (fun x _ => ks.length - (intOf x).toNat)
      case atStart => exact ⟨0, rfl, by omega, rfl, HFS.out⟩
      case round =>
        obtain ⟨q, rfl, hq, hws, hbel⟩ := hrel
        have hB := below_of_box hbel
        have hsz : w.heap.size + 1 ≤ wr.heap.size := by simpa using hbel.size
        have c0 : wr.cell? ⟨w.heap.size, 0, none⟩ = some (.int .i64 k) := by rw [box_cell hbel 0 (by simp)]; rfl
        have c1 : wr.cell? ⟨w.heap.size, 1, none⟩ = some (.int .i64 i) := by rw [box_cell hbel 1 (by simp)]; rfl
        have c2 : wr.cell? ⟨w.heap.size, 2, none⟩ = some (.int .i64 j) := by rw [box_cell hbel 2 (by simp)]; rfl
        have c3 : wr.cell? ⟨w.heap.size, 3, none⟩ = some (.int .i64 n) := by rw [box_cell hbel 3 (by simp)]; rfl
        have c4 : wr.cell? ⟨w.heap.size, 4, none⟩ = some (.slice a ks.length c) := by rw [box_cell hbel 4 (by simp)]; rfl
        by_cases hlt : q < ks.length
        · obtain ⟨b, o, k1, i1, j1, n1, l1, v1, rfl, _, hbs, hj1, e0, e1, e2, e3, e4, hr1, hk1⟩ := (HR.out.kept hB).at q hlt
          obtain ⟨hl1, a1, c1, rfl⟩ := hk1.form
          clear hl1
          have hlt1 := TT.lt hj1 k i j n
          have hd := markedTs_cons (k := k) (x := 0) hj1
          simp only [Nat.zero_add] at hd
          rw [hws] at hd
          have HB := Lib.hid (And.intro hbel hB)
          have hcs : (k == 12) = true ∧ ((q : Int) == 2) = true ∧ (k = 12 ∧ q = 2) ∨ (k == 12) = true ∧ ((q : Int) == 2) = false ∧ ¬ (k = 12 ∧ q = 2) ∨ (k == 12) = false ∧ ¬ (k = 12 ∧ q = 2) := by
            by_cases g1 : k = 12
            · by_cases g2 : q = 2
              · exact .inl ⟨by simp [g1], by simp [g2], g1, g2⟩
              · exact .inr (.inl ⟨by simp [g1], by simp; omega, by omega⟩)
            · exact .inr (.inr ⟨by simp [g1], by omega⟩)
          rcases hcs with ⟨g5, g6, g7⟩ | ⟨g5, g6, g7⟩ | ⟨g5, g7⟩
          · rw [if_pos g7] at hd
            have HS := Lib.hid (And.intro hd hk1)
            clear hws hk1 hr1 hj1 hbel hB hd g7
            go_wp2_with fail
            refine (rplain_any _ k1 i1 j1 n1 l1 _ _ (Nat.lt_succ_self _) HS.out.2).mono ?_
            rintro e w2 ⟨rfl, hb2⟩
            have HB2 := Lib.hid (hb2.mono hsz)
            clear hb2
            cases hrd : plainT (.node k1 i1 j1 n1 l1)
            · have hfin : markedTs k 0 ks = false := by rw [HS.out.1, hrd]; rfl
              have HF := Lib.hid hfin
              clear hfin
              go_wp2
              go_ret
              exact ⟨by rw [HW.out, HF.out]; rfl, HB.out.2.trans (HB2.out.mono (Nat.le_succ _))⟩
            · have hfin : markedTs k (q + 1) (ks.drop (q + 1)) = markedTs k 0 ks := by rw [HS.out.1, hrd]; rfl
              have HF := Lib.hid hfin
              clear hfin
              go_wp2
              go_roundw
              case rel => exact ⟨q + 1, by go_num, by omega, HF.out, HB.out.1.trans HB2.out⟩
              case measure => simp [intOf]; omega
          · rw [if_neg g7] at hd
            have HS := Lib.hid (And.intro hd hk1)
            clear hws hk1 hr1 hj1 hbel hB hd g7
            go_wp2_with fail
            refine (ih k1 i1 j1 n1 l1 _ _ (by omega) HS.out.2).mono ?_
            rintro e w2 ⟨rfl, hb2⟩
            have HB2 := Lib.hid (hb2.mono hsz)
            clear hb2
            cases hrd : markedT (.node k1 i1 j1 n1 l1)
            · have hfin : markedTs k 0 ks = false := by rw [HS.out.1, hrd]; rfl
              have HF := Lib.hid hfin
              clear hfin
              go_wp2
              go_ret
              exact ⟨by rw [HW.out, HF.out]; rfl, HB.out.2.trans (HB2.out.mono (Nat.le_succ _))⟩
            · have hfin : markedTs k (q + 1) (ks.drop (q + 1)) = markedTs k 0 ks := by rw [HS.out.1, hrd]; rfl
              have HF := Lib.hid hfin
              clear hfin
              go_wp2
              go_roundw
              case rel => exact ⟨q + 1, by go_num, by omega, HF.out, HB.out.1.trans HB2.out⟩
              case measure => simp [intOf]; omega
          · rw [if_neg g7] at hd
            have HS := Lib.hid (And.intro hd hk1)
            clear hws hk1 hr1 hj1 hbel hB hd g7
            go_wp2_with fail
            refine (ih k1 i1 j1 n1 l1 _ _ (by omega) HS.out.2).mono ?_
            rintro e w2 ⟨rfl, hb2⟩
            have HB2 := Lib.hid (hb2.mono hsz)
            clear hb2
            cases hrd : markedT (.node k1 i1 j1 n1 l1)
            · have hfin : markedTs k 0 ks = false := by rw [HS.out.1, hrd]; rfl
              have HF := Lib.hid hfin
              clear hfin
              go_wp2
              go_ret
              exact ⟨by rw [HW.out, HF.out]; rfl, HB.out.2.trans (HB2.out.mono (Nat.le_succ _))⟩
            · have hfin : markedTs k (q + 1) (ks.drop (q + 1)) = markedTs k 0 ks := by rw [HS.out.1, hrd]; rfl
              have HF := Lib.hid hfin
              clear hfin
              go_wp2
              go_roundw
              case rel => exact ⟨q + 1, by go_num, by omega, HF.out, HB.out.1.trans HB2.out⟩
              case measure => simp [intOf]; omega
        · have hjl : q = ks.length := by omega
          subst hjl
          have hfin : markedTs k 0 ks = true := by rw [← hws, List.drop_length, markedTs]
          have HF := Lib.hid (And.intro hfin hB)
          clear hws hfin hbel hB
          go_wp2
          go_ret
          exact ⟨by rw [HW.out, HF.out.1]; rfl, HF.out.2⟩
    · have HV : Hid (markedT (.node k i j n ks) = false) := Lib.hid (by
        have : (decide (1 ≤ k) && decide (k ≤ 12)) = false := by simp; omega
        simp only [markedT, this, Bool.false_and])
      have hq : decide (k < 1) = true ∨ decide (k < 1) = false ∧ decide (12 < k) = true := by
        by_cases h1 : k < 1
        · exact .inl (by simp [h1])
        · exact .inr ⟨by simp [h1], by simp; omega⟩
      clear hk
      rcases hq with g1 | ⟨g1, g2⟩
      all_goals
        go_enter Tryd.func41, Tryd.ntmps41
        go_wp2
        go_ret
        exact ⟨by rw [HV.out]; rfl, below_alloc _ _⟩

set_option maxRecDepth 100000 in
set_option maxHeartbeats 4000000 in
theorem rright04_any (k i j n : Int) (ks : List TT) (v : Value) (w : World) (hrep : RepT w ks v) :
    Calls Tryd.prog 27 #[termV k i j n v] w fun e w' => e = .returned (.bool (rightT (.node k i j n ks) 0)) ∧ Below w.heap.size w w' := by
  obtain ⟨hlen, a, c, rfl⟩ := hrep.form
  clear hlen
  have HR := Lib.hid hrep
  clear hrep
  have HV := Lib.hid (right_either (.node k i j n ks))
  generalize rightT (.node k i j n ks) 0 = rt at HV
  unfold termV
  go_enter Tryd.func27, Tryd.ntmps27
  go_wp2_with fail
  refine (rmarked_any _ k i j n ks _ _ (Nat.lt_succ_self _) (HR.out.kept (below_alloc _ _))).mono ?_
  rintro e w1 ⟨rfl, hb1⟩
  have HFS : Hid (Below (w.heap.size + 1) (w.alloc (.cells #[.int .i64 k, .int .i64 i, .int .i64 j, .int .i64 n, .slice a ks.length c] 24)) w1) := Lib.hid (by simpa using hb1)
  clear hb1
  have c0 : w1.cell? ⟨w.heap.size, 0, none⟩ = some (.int .i64 k) := by rw [box_cell HFS.out 0 (by simp)]; rfl
  have c1 : w1.cell? ⟨w.heap.size, 1, none⟩ = some (.int .i64 i) := by rw [box_cell HFS.out 1 (by simp)]; rfl
  have c2 : w1.cell? ⟨w.heap.size, 2, none⟩ = some (.int .i64 j) := by rw [box_cell HFS.out 2 (by simp)]; rfl
  have c3 : w1.cell? ⟨w.heap.size, 3, none⟩ = some (.int .i64 n) := by rw [box_cell HFS.out 3 (by simp)]; rfl
  have c4 : w1.cell? ⟨w.heap.size, 4, none⟩ = some (.slice a ks.length c) := by rw [box_cell HFS.out 4 (by simp)]; rfl
  cases hm : markedT (.node k i j n ks)
  · have HW : Hid (rt = plainT (.node k i j n ks)) := Lib.hid (by rw [HV.out, hm]; rfl)
    clear hm
    go_wp2_with fail
    refine (rplain_any _ k i j n ks _ _ (Nat.lt_succ_self _) (HR.out.kept (below_of_box HFS.out))).mono ?_
    rintro e w2 ⟨rfl, hb2⟩
    have HB2 := Lib.hid ((below_of_box HFS.out).trans (hb2.mono (below_of_box HFS.out).size))
    clear hb2
    go_wp2
    go_ret
    exact ⟨by rw [HW.out]; rfl, HB2.out⟩
  · have HW : Hid (rt = true) := Lib.hid (by rw [HV.out, hm]; rfl)
    clear hm
    go_wp2
    go_ret
    exact ⟨by rw [HW.out]; rfl, below_of_box HFS.out⟩
end Go.Proofs.YtfklmcmoackepaaDoor
