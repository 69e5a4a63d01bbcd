/- Walk of transhiplaw09.ReadInner. -/
import Derived.Test.YtefjgpahgffmfaaDoorLaw09
import Derived.Test.YtefjgpahgffmfaaDoorIn
namespace Go.Proofs.YtefjgpahgffmfaaDoor
open Go.RowKit

theorem read_okT (s : ByteArray) {nv : Value} {nm : List (List UInt8)} (i j : Nat) (w : World) {t : TT} {q : Nat} (ht : Tab w) (hs : s.size ≤ 1099511627776) (hN : Has w 1 nv nm.length (textRow nm)) (hnl : nm.length ≤ 1099511627776) (hij : i ≤ 1000 ∧ j ≤ 1000) (hr : readM s.data.toList nm i j = .ok t q) :
    Calls Tryd.prog 25 #[.string s, nv, .int .i64 i, .int .i64 j] w fun e w' => ∃ a c, e = .returned (.tuple #[termV t.kd t.ni t.nj t.nn (.slice a t.kids.length c), .int .i64 0, .int .i64 0]) ∧ RepT w' t.kids (.slice a t.kids.length c) ∧ Below w.heap.size w w' := by
  cases t with
  | node k ti tj tn ks =>
    refine (read_ok s i j w ht hs hN hnl hij hr).mono ?_
    rintro e w' ⟨a, c, he, hr, _, hb⟩
    exact ⟨a, c, he, hr, hb⟩
theorem lamT_kids (w : Nat) : ∀ m, (lamT m w).kids.length = if m = 0 then 0 else 2
  | 0 => rfl
  | _m + 1 => rfl
theorem tmod3 (x : Nat) : (x : Int).tmod 3 = ((x % 3 : Nat) : Int) := by
  rw [Int.tmod_eq_emod_of_nonneg (by omega)]; omega

set_option maxRecDepth 100000 in
set_option maxHeartbeats 4000000 in
theorem readInner_in (n k : Nat) (w : World) (hn1 : 1 ≤ n) (hn : n ≤ 20) (hk : k < n) (ht : Tab w) :
    Calls Tryd.prog 9 #[.int .i64 n, .int .i64 k] w fun e w' => e = .returned (.bool true) ∧ Below w.heap.size w w' := by
  have HT := Lib.hid ht
  have HK : Hid ((1 ≤ n ∧ n ≤ 20) ∧ k < n) := Lib.hid ⟨⟨hn1, hn⟩, hk⟩
  have g1 : decide ((n : Int) < 1) = false := decide_eq_false (by omega)
  have g2 : decide ((20 : Int) < (n : Int)) = false := decide_eq_false (by omega)
  have g3 : decide ((k : Int) < 0) = false := decide_eq_false (by omega)
  have g4 : decide ((n : Int) ≤ (k : Int)) = false := decide_eq_false (by omega)
  have g5 : decide (n ≤ k) = false := decide_eq_false (by omega)
  clear hn1 hn hk ht
  go_enter Tryd.func9, Tryd.ntmps9
  go_wp2_with fail
  have hh := new_heap w #[.string ⟨#[97]⟩, .string ⟨#[98]⟩, .string ⟨#[99]⟩] 9
  have HC : Hid (∀ x : Nat, (w.alloc (.cells #[.string ⟨#[97]⟩, .string ⟨#[98]⟩, .string ⟨#[99]⟩] 9)).cell? ⟨w.heap.size, x % 3, none⟩ = some (.string ⟨(turnN x).toArray⟩)) := Lib.hid (fun x => by
    refine (Lib.cell_of_heap hh (x % 3)).trans ?_
    unfold turnN
    rcases (show x % 3 = 0 ∨ x % 3 = 1 ∨ x % 3 = 2 by omega) with h | h | h <;> rw [h] <;> rfl)
  have HB0 : Hid (Below w.heap.size w (w.alloc (.cells #[.string ⟨#[97]⟩, .string ⟨#[98]⟩, .string ⟨#[99]⟩] 9))) := Lib.hid (below_alloc _ _)
  clear hh
  generalize w.alloc (.cells #[.string ⟨#[97]⟩, .string ⟨#[98]⟩, .string ⟨#[99]⟩] 9) = W0 at *
  go_loop [6, 7, 8] (fun s b i => ∃ q : Nat, q ≤ n ∧ i = .int .i64 q ∧ s = .string ⟨(headN q).toArray⟩ ∧ b = .string ⟨(backN q).toArray⟩) (fun _ _ i => n - (intOf i).toNat)
  case atStart => exact ⟨0, Nat.zero_le _, rfl, rfl, rfl⟩
  case round =>
    obtain ⟨q, hq, rfl, rfl, rfl⟩ := hrel
    have hb20 := HK.out.1.2
    have hl1 : (headN q).length ≤ 320 := by rw [headN_len]; omega
    have hl2 : (backN q).length ≤ 20 := by rw [backN_len]; omega
    by_cases hlt : q < n
    · have HA := Lib.hid (headN_app q)
      have HA2 := Lib.hid (backN_app q)
      have ht3 := tmod3 q
      have hm3 : q % 3 < 3 := by omega
      have hcell := HC.out q
      have hl3 := turnN_len q
      go_wp2
      go_round
      case rel => exact ⟨q + 1, by omega, by go_num, by rw [HA.out], by rw [HA2.out]⟩
      case measure => simp [intOf]; omega
    · obtain rfl : q = n := by omega
      have HA := Lib.hid (innerT_app q k)
      have ht3 := tmod3 k
      have hm3 : k % 3 < 3 := by omega
      have hcell := HC.out k
      have hl3 := turnN_len k
      obtain ⟨z, hz⟩ := inner_read (show q < 21 by omega) HK.out.2
      have HZ := Lib.hid hz
      clear hz hq hlt
      go_wp2_with fail
      rw [HA.out]
      have hh := new_heap W0 #[.string ⟨#[122]⟩, .string ⟨#[99]⟩] 9
      have HN : Hid (Has (W0.alloc (.cells #[.string ⟨#[122]⟩, .string ⟨#[99]⟩] 9)) 1 (.slice (some ⟨W0.heap.size, 0, none⟩) 2 2) 2 (textRow [[122], [99]])) := Lib.hid ⟨rfl, .inr ⟨_, 0, 2, rfl, by decide, by simp, fun j hj => by
        rw [Nat.zero_add]
        refine (Lib.cell_of_heap hh j).trans ?_
        rcases (show j = 0 ∨ j = 1 by omega) with rfl | rfl <;> rfl⟩⟩
      have HB1 : Hid (Below w.heap.size w (W0.alloc (.cells #[.string ⟨#[122]⟩, .string ⟨#[99]⟩] 9))) := Lib.hid (HB0.out.trans ((below_alloc _ _).mono HB0.out.size))
      have HSZ : Hid ((ByteArray.mk (innerT q k).toArray).size ≤ 1099511627776) := Lib.hid (by
        have e1 : (ByteArray.mk (innerT q k).toArray).size = (innerT q k).length := rfl
        have e2 : (innerT q k).length ≤ 341 := by
          simp only [innerT, List.length_append, headN_len, backN_len, turnN_len]; omega
        rw [e1]
        exact Nat.le_trans e2 (by decide))
      clear hh ht3 hm3 hcell hl3 hl1 hl2
      generalize W0.alloc (.cells #[.string ⟨#[122]⟩, .string ⟨#[99]⟩] 9) = W1 at *
      refine (read_okT ⟨(innerT q k).toArray⟩ 0 0 W1 (HT.out.below HB1.out) HSZ.out HN.out (by decide) (by decide) HZ.out).mono ?_
      rintro e w2 ⟨ka, kc, rfl, hrep, hb⟩
      have HREP := Lib.hid hrep
      have HB2 : Hid (Below w.heap.size w w2) := Lib.hid (HB1.out.trans (hb.mono HB1.out.size))
      generalize hT : lamT q (passN k q) = t at *
      have HTT := Lib.hid hT
      have HB3 : Hid (Below w2.heap.size w2 (w2.alloc (.cells #[.int .i64 t.kd, .int .i64 t.ni, .int .i64 t.nj, .int .i64 t.nn, .slice ka t.kids.length kc] 24))) := Lib.hid (below_alloc _ _)
      have HX3 : Hid ((w2.alloc (.cells #[.int .i64 t.kd, .int .i64 t.ni, .int .i64 t.nj, .int .i64 t.nn, .slice ka t.kids.length kc] 24)).heap[w2.heap.size]? = some (.cells #[.int .i64 t.kd, .int .i64 t.ni, .int .i64 t.nj, .int .i64 t.nn, .slice ka t.kids.length kc] 24 (0, 0))) := Lib.hid (new_heap _ _ _)
      clear hb hrep hT
      unfold termV
      go_wp2_with fail
      generalize w2.alloc (.cells #[.int .i64 t.kd, .int .i64 t.ni, .int .i64 t.nj, .int .i64 t.nn, .slice ka t.kids.length kc] 24) = W3 at *
      go_loop [12, 13] (fun y i => ∃ x z : Nat, x ≤ q ∧ z + passN k x = passN k q ∧ i = .int .i64 ((x : Int) - 1) ∧ y = .int .i64 z) (fun _ i => (intOf i + 1).toNat)
      case atStart => exact ⟨q, 0, Nat.le_refl _, Nat.zero_add _, rfl, rfl⟩
      case round =>
        obtain ⟨x, z, hx, hz, rfl, rfl⟩ := hrel
        have HZZ := Lib.hid hz
        have hzq : z ≤ 20 := by
          have : ∀ y, passN k y ≤ y := fun y => by
            induction y with
            | zero => exact Nat.le_refl _
            | succ y ih => simp only [passN]; split <;> omega
          have := this q; omega
        have hcase : x = 0 ∨ (∃ x', x = x' + 1 ∧ x' % 3 = k % 3) ∨ (∃ x', x = x' + 1 ∧ x' % 3 ≠ k % 3) := by
          rcases Nat.eq_zero_or_pos x with h | h
          · exact .inl h
          · by_cases hm : (x - 1) % 3 = k % 3
            · exact .inr (.inl ⟨x - 1, by omega, hm⟩)
            · exact .inr (.inr ⟨x - 1, by omega, hm⟩)
        clear hz
        rcases hcase with rfl | ⟨x', rfl, hm⟩ | ⟨x', rfl, hm⟩
        rotate_left 2
        · have HZ2 : Hid (z + 1 + passN k x' = passN k q) := Lib.hid (by have := HZZ.out; simp only [passN, if_neg hm] at this; omega)
          rw [show ((x' + 1 : Nat) : Int) - 1 = (x' : Int) by omega]
          have ht1 := tmod3 x'
          have ht2 := tmod3 k
          have hne : (((x' % 3 : Nat) : Int) != ((k % 3 : Nat) : Int)) = true := by simp; omega
          have hne2 : ((x' % 3) == (k % 3)) = false := by simpa using hm
          clear hm
          go_wp2
          go_round
          case rel => exact ⟨x', z + 1, by omega, HZ2.out, by go_num, by go_num⟩
          case measure => simp [intOf]
        all_goals
          have HZQ : Hid (z = passN k q) := Lib.hid (by
            have h := HZZ.out
            first
              | (simp only [passN, if_pos hm] at h; omega)
              | (simp only [passN] at h; omega))
          clear HZZ
          first
            | rw [show ((0 : Nat) : Int) - 1 = -1 from rfl]
            | rw [show ((x' + 1 : Nat) : Int) - 1 = (x' : Int) by omega]
          try have ht1 := tmod3 x'
          have ht2 := tmod3 k
          try have hne : (((x' % 3 : Nat) : Int) != ((k % 3 : Nat) : Int)) = false := by rw [hm]; simp
          try have hne2 : ((x' % 3) == (k % 3)) = true := by simpa using hm
          try clear hm
          go_wp2_with fail
          go_loopw [14] (fun i wr => ∃ (x m : Nat) (v : Value), x + m = q ∧ i = .int .i64 x ∧ W3.grownBy wr (some w2.heap.size) ∧ wr.heap[w2.heap.size]? = some (.cells #[.int .i64 (lamT m (passN k q)).kd, .int .i64 (lamT m (passN k q)).ni, .int .i64 (lamT m (passN k q)).nj, .int .i64 (lamT m (passN k q)).nn, v] 24 (0, 0)) ∧ RepT w2 (lamT m (passN k q)).kids v) (fun i _ => q - (intOf i).toNat)
          case atStart => exact ⟨0, q, _, Nat.zero_add _, rfl, grown_refl _ _, by rw [HTT.out]; exact HX3.out, by rw [HTT.out]; exact HREP.out⟩
          case round =>
            obtain ⟨x, m, v, hxm, rfl, hgr, hbox, hrv⟩ := hrel
            have HGR := Lib.hid hgr
            have HBOX := Lib.hid hbox
            have HRV := Lib.hid hrv
            clear hgr hbox hrv
            cases m with
            | succ m =>
              have hlt : decide ((x : Int) < (q : Int)) = true := decide_eq_true (by omega)
              have hlt2 : decide (x < q) = true := decide_eq_true (by omega)
              obtain ⟨hkl, a5, c5, rfl⟩ := HRV.out.form
              have hbox : wr.heap[w2.heap.size]? = some (.cells #[.int .i64 14, .int .i64 0, .int .i64 0, .int .i64 0, .slice a5 2 c5] 24 (0, 0)) := HBOX.out
              have hrow : RepT w2 [.node 1 0 0 0 [], lamT m (passN k q)] (.slice a5 2 c5) := HRV.out
              have HBX := Lib.hid hbox
              obtain ⟨b, o, k1, i1, j1, n1, l1, v1, rfl, _, hb, he, e0, e1, e2, e3, e4, _, hr1⟩ := hrow.at 1 (by simp)
              obtain ⟨_, a6, c6, rfl⟩ := hr1.form
              have hm1 : lamT m (passN k q) = .node k1 i1 j1 n1 l1 := by simpa using he
              have HM := Lib.hid hm1
              have HR1 := Lib.hid hr1
              have hcw : ∀ off, wr.cell? ⟨b, off, none⟩ = w2.cell? ⟨b, off, none⟩ := fun off => by
                have h1 := HGR.out.block b (Nat.lt_of_lt_of_le hb HB3.out.size) (by simp; omega)
                have h2 := HB3.out.block b hb
                simp only [World.cell?, h1, h2]
              have d0 := (hcw _).trans e0
              have d1 := (hcw _).trans e1
              have d2 := (hcw _).trans e2
              have d3 := (hcw _).trans e3
              have d4 := (hcw _).trans e4
              rw [Nat.one_mul] at d0 d1 d2 d3 d4
              obtain ⟨r0, r1, r2, r3, r4, f0, f1, f2, f3, f4⟩ := cells5 HBX.out
              clear e0 e1 e2 e3 e4 hcw he hm1 hr1 hrow hkl hbox hb
              go_wp2
              go_roundw
              case rel =>
                refine ⟨x + 1, m, .slice a6 l1.length c6, by omega, by go_num, ?_, ?_, ?_⟩
                · exact grown_set (grown_set (grown_set (grown_set (grown_set HGR.out 0 _) 1 _) 2 _) 3 _) 4 _
                · have h2 := set5_at HBX.out (.int .i64 k1) (.int .i64 i1) (.int .i64 j1) (.int .i64 n1) (.slice a6 l1.length c6)
                  unfold set5 at h2
                  rw [HM.out]
                  exact h2
                · rw [HM.out]; exact HR1.out
              case measure => simp [intOf]; omega
            | zero =>
              have hlt : decide ((x : Int) < (q : Int)) = false := decide_eq_false (by omega)
              have hlt2 : decide (x < q) = false := decide_eq_false (by omega)
              have z1 : (((passN k q : Nat) : Int) == (z : Int)) = true := by rw [HZQ.out]; exact beq_self_eq_true _
              have z2 : ((passN k q) == z) = true := by rw [HZQ.out]; exact beq_self_eq_true _
              have HBOX2 : Hid (wr.heap[w2.heap.size]? = some (.cells #[.int .i64 2, .int .i64 (passN k q : Nat), .int .i64 0, .int .i64 0, v] 24 (0, 0))) := Lib.hid HBOX.out
              have HBW : Hid (Below w.heap.size w wr) := Lib.hid ((HB2.out.trans (HB3.out.mono HB2.out.size)).trans (below_of_grown HGR.out HB2.out.size (Nat.le_trans HB2.out.size HB3.out.size)))
              have hbl : w2.heap.size < wr.heap.size := (Array.getElem?_eq_some_iff.1 HBOX2.out).1
              have HBL := Lib.hid hbl
              clear hbl
              go_wp2_with fail
              have hh := new_heap wr #[.string ⟨#[99]⟩, .string ⟨#[122]⟩, .string ⟨#[99]⟩, .string ⟨#[121]⟩] 9
              have HN2 : Hid (Has (wr.alloc (.cells #[.string ⟨#[99]⟩, .string ⟨#[122]⟩, .string ⟨#[99]⟩, .string ⟨#[121]⟩] 9)) 1 (.slice (some ⟨wr.heap.size, 0, none⟩) 4 4) 4 (textRow [[99], [122], [99], [121]])) := Lib.hid ⟨rfl, .inr ⟨_, 0, 4, rfl, by decide, by simp, fun j hj => by
                rw [Nat.zero_add]
                refine (Lib.cell_of_heap hh j).trans ?_
                rcases (show j = 0 ∨ j = 1 ∨ j = 2 ∨ j = 3 by omega) with rfl | rfl | rfl | rfl <;> rfl⟩⟩
              have HB5 : Hid (Below wr.heap.size wr (wr.alloc (.cells #[.string ⟨#[99]⟩, .string ⟨#[122]⟩, .string ⟨#[99]⟩, .string ⟨#[121]⟩] 9))) := Lib.hid (below_alloc _ _)
              clear hh
              generalize wr.alloc (.cells #[.string ⟨#[99]⟩, .string ⟨#[122]⟩, .string ⟨#[99]⟩, .string ⟨#[121]⟩] 9) = W5 at *
              refine (read_ok ⟨#[99]⟩ 0 0 W5 (HT.out.below (HBW.out.trans (HB5.out.mono HBW.out.size))) (by decide) HN2.out (by decide) (by decide) lone_read).mono ?_
              rintro e w6 ⟨ka6, kc6, rfl, -, -, hb⟩
              have HB6 : Hid (Below wr.heap.size wr (w6.alloc (.cells #[.int .i64 2, .int .i64 1, .int .i64 0, .int .i64 0, .slice ka6 0 kc6] 24))) := Lib.hid (HB5.out.trans ((hb.trans ((below_alloc _ _).mono hb.size)).mono HB5.out.size))
              have HX6 : Hid ((w6.alloc (.cells #[.int .i64 2, .int .i64 1, .int .i64 0, .int .i64 0, .slice ka6 0 kc6] 24)).heap[w6.heap.size]? = some (.cells #[.int .i64 2, .int .i64 1, .int .i64 0, .int .i64 0, .slice ka6 0 kc6] 24 (0, 0)) ∧ (w6.alloc (.cells #[.int .i64 2, .int .i64 1, .int .i64 0, .int .i64 0, .slice ka6 0 kc6] 24)).heap[w2.heap.size]? = some (.cells #[.int .i64 2, .int .i64 (passN k q : Nat), .int .i64 0, .int .i64 0, v] 24 (0, 0))) := Lib.hid ⟨new_heap _ _ _, (HB6.out.block _ HBL.out).trans HBOX2.out⟩
              obtain ⟨x0, x1, x2, x3, x4⟩ := box_cells5 HX6.out.1
              obtain ⟨y0, y1, y2, y3, y4⟩ := box_cells5 HX6.out.2
              clear hb
              unfold termV
              go_wp2_with fail
              refine (wakes09 _ (HT.out.below (HBW.out.trans (HB6.out.mono HBW.out.size)))).mono ?_
              rintro e w7 ⟨rfl, hb⟩
              have HB7 : Hid (Below w.heap.size w w7) := Lib.hid (HBW.out.trans ((HB6.out.trans (hb.mono HB6.out.size)).mono HBW.out.size))
              clear hb x0 x1 x2 x3 x4 y0 y1 y2 y3 y4
              go_wp2
              go_ret
              exact ⟨rfl, HB7.out⟩

set_option maxRecDepth 100000 in
set_option maxHeartbeats 4000000 in
theorem readInner_walk (n k : Int) (w : World) (ht : Tab w) :
    Calls Tryd.prog 9 #[.int .i64 n, .int .i64 k] w fun e w' => e = .returned (.bool true) ∧ Below w.heap.size w w' := by
  by_cases h : (1 ≤ n ∧ n ≤ 20) ∧ (0 ≤ k ∧ k < n)
  · obtain ⟨⟨h1, h2⟩, h3, h4⟩ := h
    obtain ⟨N, rfl⟩ := Int.eq_ofNat_of_zero_le (show 0 ≤ n by omega)
    obtain ⟨K, rfl⟩ := Int.eq_ofNat_of_zero_le h3
    exact readInner_in N K w (by omega) (by omega) (by omega) ht
  · rcases (show decide (n < 1) = true ∨ (decide (n < 1) = false ∧ decide ((20 : Int) < n) = true) ∨ (decide (n < 1) = false ∧ decide ((20 : Int) < n) = false ∧ decide (k < 0) = true) ∨ (decide (n < 1) = false ∧ decide ((20 : Int) < n) = false ∧ decide (k < 0) = false ∧ decide (n ≤ k) = true) by simp only [decide_eq_true_eq, decide_eq_false_iff_not]; omega) with h1 | ⟨h1, h2⟩ | ⟨h1, h2, h3⟩ | ⟨h1, h2, h3, h4⟩
    all_goals
      clear h
      go_enter Tryd.func9, Tryd.ntmps9
      go_wp2
      go_ret
      exact ⟨rfl, Below.refl _ _⟩
end Go.Proofs.YtefjgpahgffmfaaDoor
