/- Walk of the page's body: what stands behind a list's word. -/
import Derived.Test.YtfklmcmoackepaaDoorQb
namespace Go.Proofs.YtfklmcmoackepaaDoor
open Go.RowKit

section
variable {E : REnv} {lv : Value} {b : Nat} {w : World} {nv : Value} {nm : List (List UInt8)} {k : Nat}

theorem GQ.start (h : Rq E lv b w nv nm (.ok k)) (kd : Int) : GQ E lv b w kd 0 0 0 nv nm (.ok k) (.slice none 0 0) [] [] (.slice none 0 0)
    ((w.alloc (.cells #[.int .i64 0, .int .i64 0, .int .i64 0, .int .i64 0, .slice none 0 0] 24)).alloc (.cells #[.int .i64 kd, .int .i64 0, .int .i64 0, .int .i64 0, .slice none 0 0] 24)) := by
  have hb : Below w.heap.size w ((w.alloc (.cells #[.int .i64 0, .int .i64 0, .int .i64 0, .int .i64 0, .slice none 0 0] 24)).alloc (.cells #[.int .i64 kd, .int .i64 0, .int .i64 0, .int .i64 0, .slice none 0 0] 24)) :=
    (below_alloc _ _).trans ((below_alloc _ _).mono (by simp))
  refine { old := h.lt, lvs := h.has.own_lt, nvs := fun x hx => ?_, rq := h.kept hb, gr := grown_below hb, res := ?_, box := ?_, own := World.ownsRow_nil _ _ _ _, hasB := Has.nil _ _, bfar := fun x hx => by simp [Value.ownBlock] at hx, kids := fun _ p hp => by simp at hp }
  · have := h.hasN.own_lt x hx
    exact ⟨by omega, by omega, by simp [Value.ownBlock]⟩
  · rw [Lib.alloc_old _ _ _ (by simp)]
    exact heap_alloc_new w _
  · have := heap_alloc_new (w.alloc (.cells #[.int .i64 0, .int .i64 0, .int .i64 0, .int .i64 0, .slice none 0 0] 24)) (.cells #[.int .i64 kd, .int .i64 0, .int .i64 0, .int .i64 0, .slice none 0 0] 24)
    simpa using this

set_option maxHeartbeats 16000000 in
set_option maxRecDepth 1000000 in
theorem qbody_any (fuel : Nat) (ih : TermQC E lv b fuel) {kd : Nat} (h1 : 1 ≤ kd) (h23 : kd ≤ 23) (hn2 : kd ≠ 2) (h : Rq E lv b w nv nm (.ok k)) (hf : E.l.length < k + fuel) (hnm : nm.length + 2 + E.l.length ≤ 2199023255552 + k) :
    Calls Tryd.prog 39 #[.pointer (some ⟨b, 0, none⟩), .int .i64 kd] w (TermQPost E lv b w nv nm (bodyM E (termM E fuel) nm kd k)) := by
  have HG0 := Lib.hid (GQ.start h kd)
  have HR0 := Lib.hid h
  have HKD := Lib.hid (And.intro h1 (And.intro h23 hn2))
  have IH : Hid (∀ (nv : Value) (nm : List (List UInt8)) (m : Md) (want : Nat) (w : World), Rq E lv b w nv nm m → (∀ k, m = .ok k → E.l.length < k + fuel ∧ nm.length + E.l.length ≤ 2199023255552 + k) → want ≤ 2 →
    Calls Tryd.prog 23 #[.pointer (some ⟨b, 0, none⟩), .int .i64 want] w (TermQPost E lv b w nv nm (m.go (termM E fuel nm want)))) := Lib.hid ih
  have HMV : Hid (∀ nm want k, k ≤ E.l.length → Moves E.l 1 k (termM E fuel nm want k)) := Lib.hid (fun nm want k h => termM_moves E fuel nm want k h)
  have HF := Lib.hid (And.intro hf hnm)
  clear h ih h1 h23 hn2 hf hnm
  generalize termM E fuel = F at IH HMV
  go_enter Tryd.func39, Tryd.ntmps39
  go_upto_if 17 with fail
  obtain ⟨wa, hwa⟩ : ∃ wa, ((w.alloc (.cells #[.int .i64 0, .int .i64 0, .int .i64 0, .int .i64 0, .slice none 0 0] 24)).alloc (.cells #[.int .i64 kd, .int .i64 0, .int .i64 0, .int .i64 0, .slice none 0 0] 24)) = wa := ⟨_, rfl⟩
  rw [hwa] at HG0
  rw [hwa]
  clear hwa
  go_cut [6] (fun s6 wx => s6 = .int .i64 (if 12 < kd then 2 else 1) ∧ wa = wx)
  case first =>
    by_cases h12 : 12 < kd
    · have g12 : (12 : Int) < (kd : Int) := by omega
      have HV : Hid ((if 12 < kd then (2 : Int) else 1) = 2) := Lib.hid (by rw [if_pos h12])
      clear h12
      go_wp2_with fail
      go_meet
      case rel => exact ⟨by rw [HV.out], rfl⟩
    · have g12 : ¬ (12 : Int) < (kd : Int) := by omega
      have g12' : (kd : Int) ≤ 12 := by omega
      have HV : Hid ((if 12 < kd then (2 : Int) else 1) = 1) := Lib.hid (by rw [if_neg h12])
      clear h12
      go_wp2_with fail
      go_meet
      case rel => exact ⟨by rw [HV.out], rfl⟩
  case rest =>
  obtain ⟨rfl, rfl⟩ := hcut
  have HSV : Hid (∀ x : Nat, kd ≠ 1 → ¬ (kd = 12 ∧ x = 2) → (if 12 < kd then (2 : Int) else 1) = ((ofK kd x).toNat : Nat)) := Lib.hid (fun x h1 h2 => by
    have := HKD.out
    by_cases h12 : 12 < kd
    · have : ofK kd x = 2 := by unfold ofK sortK; rw [if_neg (by omega), if_neg (by omega), if_neg (by omega)]
      rw [if_pos h12, this]; rfl
    · have : ofK kd x = 1 := by unfold ofK sortK; rw [if_neg (by omega), if_neg (by omega), if_pos (by omega)]
      rw [if_neg h12, this]; rfl)
  generalize (if 12 < kd then (2 : Int) else 1) = sv at HSV
  go_upto_block 0 with fail
  go_cut [] (fun wx => ∃ (n i j : Nat), GQ E lv b w kd i j n nv nm (headM E kd k).md (.slice none 0 0) [] [] (.slice none 0 0) wx ∧ HeadIs E kd k n i j ∧ (kd = 23 → 1 ≤ n ∧ n ≤ 21) ∧ i ≤ 1000 ∧ j ≤ 1000 ∧ n ≤ 21)
  case first =>
    have hq : kd = 23 ∨ (kd = 3 ∨ kd = 4 ∨ kd = 5 ∨ kd = 6 ∨ kd = 7 ∨ kd = 8 ∨ kd = 9) ∨ (kd = 1 ∨ kd = 10 ∨ kd = 11 ∨ kd = 12) ∨ (13 ≤ kd ∧ kd ≤ 22) := by have := HKD.out; omega
    rcases hq with h23 | h39 | h1 | h13
    · have g23 : ((kd : Int) == 23) = true := by simp [h23]
      have H23 := Lib.hid h23
      clear h23
      go_wp2_with fail
      refine (qwordT HG0.out.rq).mono ?_
      rintro e w2 ⟨rfl, ht2⟩
      have HG2 := Lib.hid (HG0.out.turn ht2 (fun _ => rfl))
      clear ht2
      go_wp2_with fail
      refine (rsymbol_any _ _).mono ?_
      rintro e w3 ⟨rfl, hb3⟩
      have HG3 := Lib.hid (HG2.out.below hb3)
      clear hb3
      rw [show symI (ByteArray.mk (textAt E.l k).toArray).data.toList = symI (textAt E.l k) from rfl]
      go_wp2_with fail
      refine (qkindT HG3.out.rq).mono ?_
      rintro e w4 ⟨rfl, ht4⟩
      have HG4 := Lib.hid (HG3.out.turn ht4 (fun _ => rfl))
      clear ht4
      have hs21 : symI (textAt E.l k) ≤ 21 := by unfold symI; split <;> omega
      have hcase : (((kindAt E.l k : Nat) : Int) != 3) = true ∧ (kindAt E.l k ≠ 3 ∨ symI (textAt E.l k) = 0) ∨ (((kindAt E.l k : Nat) : Int) != 3) = false ∧ (((symI (textAt E.l k) : Nat) : Int) == 0) = true ∧ (kindAt E.l k ≠ 3 ∨ symI (textAt E.l k) = 0) ∨
          (((kindAt E.l k : Nat) : Int) != 3) = false ∧ (((symI (textAt E.l k) : Nat) : Int) == 0) = false ∧ kindAt E.l k = 3 ∧ symI (textAt E.l k) ≠ 0 := by
        by_cases h3 : kindAt E.l k = 3
        · by_cases hs : symI (textAt E.l k) = 0
          · exact .inr (.inl ⟨by simp [h3], by simp [hs], .inr hs⟩)
          · exact .inr (.inr ⟨by simp [h3], by simp [hs], h3, hs⟩)
        · exact .inl ⟨by simp; omega, .inl h3⟩
      have hfault : (kindAt E.l k ≠ 3 ∨ symI (textAt E.l k) = 0) → ∀ W : World, GQ E lv b w kd 0 0 0 nv nm (.bad k) (.slice none 0 0) [] [] (.slice none 0 0) W → ∀ W', set5 W w.heap.size (.int .i64 0) (.int .i64 0) (.int .i64 0) (.int .i64 0) (.slice none 0 0) = W' →
          W'.heap[w.heap.size]? = some (.cells #[.int .i64 0, .int .i64 0, .int .i64 0, .int .i64 0, .slice none 0 0] 24 (0, 0)) ∧ TermQPost E lv b w nv nm (bodyM E F nm kd k) (.returned (termV 0 0 0 0 (.slice none 0 0))) W' := fun hno W hW W' he => by
        have h5 := set5Q HR0.out hW.rq hW.gr hW.res (fun x hx => (hW.nvs x hx).1) _ _ _ _ _ he
        have hb : bodyM E F nm kd k = .bad k := by
          rw [H23.out]; unfold bodyM; rw [head_nouse hno]; rfl
        rw [hb]
        exact ⟨h5.1, .node 0 0 0 0 [], none, 0, 0, nv, rfl, h5.2.1, h5.2.2, .inl rfl, fun t' k' h => by cases h⟩
      have HFAULT := Lib.hid hfault
      clear hfault
      rcases hcase with ⟨k3, hno⟩ | ⟨k3, s0, hno⟩ | ⟨k3, s0, h3, hs⟩
      · have HNO := Lib.hid hno
        clear hno
        obtain ⟨_, c0, c1, c2, c3, c4, c5⟩ := HG4.out.rq.at
        go_wp2_with fail
        refine (qfail_ok k HG4.out.rq).mono ?_
        rintro e w5 ⟨rfl, ht5⟩
        have HG5 := Lib.hid (HG4.out.turn ht5 (fun h => by simp [Md.isBad] at h))
        clear ht5 c0 c1 c2 c3 c4 c5
        obtain ⟨r0, r1, r2, r3, r4, g0, g1, g2, g3, g4⟩ := cells5 HG5.out.res
        go_wp2
        have hset := HFAULT.out HNO.out _ HG5.out _ rfl
        unfold set5 at hset
        obtain ⟨x0, x1, x2, x3, x4, _⟩ := cells5 hset.1
        exact bodyPost_ret (v := termV 0 0 0 0 (.slice none 0 0)) (by simp [results, Tryd.results39, go_sem, x0, x1, x2, x3, x4, termV]) rfl hset.2
      · have HNO := Lib.hid hno
        clear hno
        obtain ⟨_, c0, c1, c2, c3, c4, c5⟩ := HG4.out.rq.at
        go_wp2_with fail
        refine (qfail_ok k HG4.out.rq).mono ?_
        rintro e w5 ⟨rfl, ht5⟩
        have HG5 := Lib.hid (HG4.out.turn ht5 (fun h => by simp [Md.isBad] at h))
        clear ht5 c0 c1 c2 c3 c4 c5
        obtain ⟨r0, r1, r2, r3, r4, g0, g1, g2, g3, g4⟩ := cells5 HG5.out.res
        go_wp2
        have hset := HFAULT.out HNO.out _ HG5.out _ rfl
        unfold set5 at hset
        obtain ⟨x0, x1, x2, x3, x4, _⟩ := cells5 hset.1
        exact bodyPost_ret (v := termV 0 0 0 0 (.slice none 0 0)) (by simp [results, Tryd.results39, go_sem, x0, x1, x2, x3, x4, termV]) rfl hset.2
      · have H3 := Lib.hid (And.intro h3 hs)
        have hk := kindAt_lt (l := E.l) (k := k) (by omega)
        have hl := HR0.out.len
        clear h3 hs HFAULT
        obtain ⟨_, c0, c1, c2, c3, c4, c5⟩ := HG4.out.rq.at
        have f1 := HG4.out.rq.fz 1
        have hbl := HG4.out.rq.lt
        obtain ⟨e0, e1, e2, e3, e4, q0, q1, q2, q3, q4⟩ := cells5 HG4.out.box
        have hne : ¬ w.heap.size + 1 = b := by have := HG4.out.old; omega
        have hne' : ¬ b = w.heap.size + 1 := by have := HG4.out.old; omega
        have hbig := HG4.out.big
        have HG5 : Hid (GQ E lv b w kd 0 0 0 nv nm (.ok (k + 1)) (.slice none 0 0) [] [] (.slice none 0 0) (w4.setCell ⟨b, 1, none⟩ (.int .i64 ((k + 1 : Nat) : Int)))) := Lib.hid (HG4.out.move (HG4.out.rq.step (k + 1) hk) (grown_set (grown_refl _ _) 1 _) (.inl rfl) (fun _ => rfl))
        have HG6 := Lib.hid (HG5.out.setbox 3 (.int .i64 (symI (textAt E.l k) : Nat)) rfl)
        go_wp2_with fail
        clear c0 c1 c2 c3 c4 c5 f1 e0 e1 e2 e3 e4 q0 q1 q2 q3 q4
        simp only [Int.natCast_add, Int.natCast_one] at HG6
        refine (qlev_m HG6.out.rq).mono ?_
        rintro e w7 ⟨i, rfl, ht7, hi, hi2⟩
        have HG7 := Lib.hid (HG6.out.turn ht7 (md_good _ _))
        have HI := Lib.hid hi
        clear ht7 hi
        obtain ⟨e0, e1, e2, e3, e4, q0, q1, q2, q3, q4⟩ := cells5 HG7.out.box
        have hbig7 := HG7.out.big
        have HG8 := Lib.hid (HG7.out.setbox 1 (.int .i64 (i : Nat)) rfl)
        go_wp2_with fail
        clear e0 e1 e2 e3 e4 q0 q1 q2 q3 q4
        refine (qlev_m HG8.out.rq).mono ?_
        rintro e w9 ⟨j, rfl, ht9, hj, hj2⟩
        have HG9 := Lib.hid (HG8.out.turn ht9 (md_good _ _))
        have HJ := Lib.hid hj
        clear ht9 hj
        obtain ⟨e0, e1, e2, e3, e4, q0, q1, q2, q3, q4⟩ := cells5 HG9.out.box
        have hbig9 := HG9.out.big
        have HGX := Lib.hid (HG9.out.setbox 2 (.int .i64 (j : Nat)) rfl)
        have HH := Lib.hid (head_use H3.out.1 H3.out.2 HI.out HJ.out)
        go_wp2_with fail
        go_meet
        case rel => exact ⟨symI (textAt E.l k), i, j, by rw [H23.out, HH.out.1, ← H23.out]; exact HGX.out, by rw [H23.out]; exact HH.out.2, fun _ => ⟨by have := H3.out.2; omega, hs21⟩, hi2, hj2, hs21⟩
    · have hlv : levelsK kd = 2 := by rcases h39 with rfl | rfl | rfl | rfl | rfl | rfl | rfl <;> rfl
      have HLV := Lib.hid hlv
      have hn23 : kd ≠ 23 := by omega
      clear hlv
      rcases h39 with rfl | rfl | rfl | rfl | rfl | rfl | rfl
      all_goals
        go_wp2_with fail
        refine (qlev_m HG0.out.rq).mono ?_
        rintro e w7 ⟨i, rfl, ht7, hi, hi2⟩
        have HG7 := Lib.hid (HG0.out.turn ht7 (md_good _ _))
        have HI := Lib.hid hi
        clear ht7 hi
        obtain ⟨e0, e1, e2, e3, e4, q0, q1, q2, q3, q4⟩ := cells5 HG7.out.box
        have hbig7 := HG7.out.big
        have HG8 := Lib.hid (HG7.out.setbox 1 (.int .i64 (i : Nat)) rfl)
        go_wp2_with fail
        clear e0 e1 e2 e3 e4 q0 q1 q2 q3 q4
        refine (qlev_m HG8.out.rq).mono ?_
        rintro e w9 ⟨j, rfl, ht9, hj, hj2⟩
        have HG9 := Lib.hid (HG8.out.turn ht9 (md_good _ _))
        have HJ := Lib.hid hj
        clear ht9 hj
        obtain ⟨e0, e1, e2, e3, e4, q0, q1, q2, q3, q4⟩ := cells5 HG9.out.box
        have hbig9 := HG9.out.big
        have HGX := Lib.hid (HG9.out.setbox 2 (.int .i64 (j : Nat)) rfl)
        have HH := Lib.hid (head_two hn23 HLV.out HI.out HJ.out)
        go_wp2_with fail
        go_meet
        exact ⟨0, i, j, by rw [HH.out.1]; exact HGX.out, HH.out.2, fun h => absurd h hn23, hi2, hj2, Nat.zero_le _⟩
    · have hlv : levelsK kd = 1 := by rcases h1 with rfl | rfl | rfl | rfl <;> rfl
      have HLV := Lib.hid hlv
      have hn23 : kd ≠ 23 := by omega
      clear hlv
      rcases h1 with rfl | rfl | rfl | rfl
      all_goals
        go_wp2_with fail
        refine (qlev_m HG0.out.rq).mono ?_
        rintro e w7 ⟨i, rfl, ht7, hi, hi2⟩
        have HG7 := Lib.hid (HG0.out.turn ht7 (md_good _ _))
        have HI := Lib.hid hi
        clear ht7 hi
        obtain ⟨e0, e1, e2, e3, e4, q0, q1, q2, q3, q4⟩ := cells5 HG7.out.box
        have hbig7 := HG7.out.big
        have HG8 := Lib.hid (HG7.out.setbox 1 (.int .i64 (i : Nat)) rfl)
        have HH := Lib.hid (head_one hn23 HLV.out HI.out)
        go_wp2_with fail
        go_meet
        exact ⟨0, i, 0, by rw [HH.out.1]; exact HG8.out, HH.out.2, fun h => absurd h hn23, hi2, Nat.zero_le _, Nat.zero_le _⟩
    · have HH := Lib.hid (head_none (E := E) (kd := kd) (k := k) (by omega) (by unfold levelsK; rw [if_neg (by omega), if_neg (by omega)]))
      have hn23 : kd ≠ 23 := by omega
      have e1 : ((kd : Int) == 1) = false := by simp; omega
      have e3 : ((kd : Int) == 3) = false := by simp; omega
      have e4 : ((kd : Int) == 4) = false := by simp; omega
      have e5 : ((kd : Int) == 5) = false := by simp; omega
      have e6 : ((kd : Int) == 6) = false := by simp; omega
      have e7 : ((kd : Int) == 7) = false := by simp; omega
      have e8 : ((kd : Int) == 8) = false := by simp; omega
      have e9 : ((kd : Int) == 9) = false := by simp; omega
      have e10 : ((kd : Int) == 10) = false := by simp; omega
      have e11 : ((kd : Int) == 11) = false := by simp; omega
      have e12 : ((kd : Int) == 12) = false := by simp; omega
      have e23 : ((kd : Int) == 23) = false := by simp; omega
      clear h13
      go_wp2_with fail
      go_meet
      case rel => exact ⟨0, 0, 0, by rw [HH.out.1]; exact HG0.out, HH.out.2, fun h => absurd h hn23, Nat.zero_le _, Nat.zero_le _, Nat.zero_le _⟩
  case rest =>
  obtain ⟨n, i, j, hG1, hhead, hn23, hi, hj, hn⟩ := hcut
  have HG1 := Lib.hid hG1
  have HHEAD := Lib.hid hhead
  have HNIJ : Hid ((kd = 23 → 1 ≤ n ∧ n ≤ 21) ∧ i ≤ 1000 ∧ j ≤ 1000 ∧ n ≤ 21) := Lib.hid ⟨hn23, hi, hj, hn⟩
  clear hG1 hhead hn23 hi hj hn HG0
  go_wp2_with fail
  refine (rbinds_any kd 1 _).mono ?_
  rintro e w3 ⟨rfl, rfl⟩
  go_upto_if 77 with fail
  go_cut [8] (fun s8 wx => ∃ bnd, GQ E lv b w kd i j n nv nm ((headM E kd k).md.go (nmM E kd)).md s8 bnd [] (.slice none 0 0) wx ∧ (∀ s' k', (headM E kd k).md.go (nmM E kd) = .ok s' k' → bnd = s') ∧ BndOK kd bnd)
  case first =>
    by_cases hl : bindsK kd 1 = 1
    · have hl2 : (bindsK kd 1 == 1) = true := by simp [hl]
      have HL := Lib.hid hl
      clear hl
      go_wp2_with fail
      refine (qwant3 HG1.out.rq).mono ?_
      rintro e w4 ⟨s, rfl, ht4, hs⟩
      have HG4 := Lib.hid ((HG1.out.turn ht4 (md_good _ _)).newnames [s] (by unfold maxLen; simp) _ rfl)
      have HN := Lib.hid (nm_yes HL.out _ hs)
      clear ht4 hs
      go_wp2_with fail
      go_meet
      case rel => exact ⟨[s], by rw [HN.out.1]; exact HG4.out, HN.out.2, by simp, fun h22 y hy => by rw [(binds_one h22 hy).1]; rfl⟩
    · have hl2 : (bindsK kd 1 == 1) = false := by simp [hl]
      have HN := Lib.hid (nm_no (E := E) hl (headM E kd k).md)
      have HL := Lib.hid hl
      clear hl
      go_wp2_with fail
      go_meet
      case rel => exact ⟨[], by rw [HN.out.1]; exact HG1.out, HN.out.2, by simp, fun h22 y hy => absurd (binds_one h22 hy).2 HL.out⟩
  case rest =>
  obtain ⟨bnd0, hG2, hnm2, hbok⟩ := hcut
  have HG2 := Lib.hid hG2
  have HNM2 := Lib.hid hnm2
  have HBOK := Lib.hid hbok
  clear hG2 hnm2 hbok HG1
  obtain ⟨r, hr⟩ : ∃ r : RR (List TT), r = ((headM E kd k).md.go (nmM E kd)).md.go (kidsM E F nm kd (kidsK kd n).toNat 0 bnd0 []) := ⟨_, rfl⟩
  have HRR := Lib.hid hr
  clear hr
  obtain ⟨c, hc⟩ : ∃ c : Nat, kidsK kd n = (c : Int) := ⟨(kidsK kd n).toNat, by have := kidsK_pos HKD.out.1 HKD.out.2.1 HNIJ.out.1 (n := n); omega⟩
  have hc13 : c ≤ 13 := by have := kidsK_le kd n; omega
  have hc1 : kd = 1 → c = 0 := fun h => by
    have : kidsK kd n = 0 := by subst h; simp [kidsK]
    omega
  have HC := Lib.hid hc
  have HC1 := Lib.hid hc1
  have HRR2 : Hid (r = ((headM E kd k).md.go (nmM E kd)).md.go (kidsM E F nm kd c 0 bnd0 [])) := Lib.hid (by rw [HRR.out, HC.out]; rfl)
  have HK0 : Hid (KidRel E F nm kd c k r 0 bnd0 [] ((headM E kd k).md.go (nmM E kd)).md) := Lib.hid (by
    rw [HRR2.out]
    have h1 := headM_moves E kd (k := k) HR0.out.le
    cases hq : headM E kd k with
    | bad q => exact rfl
    | ok h k1 =>
      rw [hq] at h1
      simp only [Moves] at h1
      simp only [RR.md, Md.go]
      have h2 := nmM_moves E kd (k := k1) h1.2
      cases hq2 : nmM E kd k1 with
      | bad q => exact rfl
      | ok a k2 =>
        rw [hq2] at h2
        simp only [Moves] at h2
        exact ⟨by simp, by omega⟩)
  clear hc hc1
  obtain ⟨i0, hif, hi0, hi1, hi2⟩ := info_parts Tryd.infoTerm
  have HINF := Lib.hid (And.intro hif (And.intro hi0 (And.intro hi1 hi2)))
  clear hif hi0 hi1 hi2
  have hnm41 : nm.length ≤ 2199023255552 := by have := HF.out.2; have := HR0.out.le; omega
  go_wp2_with fail
  go_loopw [8, 9, 10] (fun bv v ix wr => ∃ (x : Nat) (nv' : Value) (bnd : List (List UInt8)) (rows : List (TT × Value)) (m : Md), ix = .int .i64 x ∧ x ≤ c ∧ rows.length = x ∧ GQ E lv b w kd i j n nv' nm m bv bnd rows v wr ∧ KidRel E F nm kd c k r x bnd rows m ∧ BndOK kd bnd ∧ NvOK w nv nv') (fun _ _ ix _ => c - (intOf ix).toNat)
  case atStart => exact ⟨0, nv, bnd0, [], _, rfl, Nat.zero_le _, rfl, HG2.out, HK0.out, HBOK.out, .inl rfl⟩
  case round =>
    obtain ⟨x, nv', bnd, rows, m, rfl, hx, hlen, hG, hK, hB, hN⟩ := hrel
    obtain ⟨av, cv, hav⟩ := own_form hG.own
    subst hav
    have HG := Lib.hid hG
    have HK := Lib.hid (And.intro hK (And.intro hB hN))
    have HLEN := Lib.hid hlen
    have hrl : rows.length ≤ 13 := by omega
    obtain ⟨e0, e1, e2, e3, e4, _⟩ := cells5 hG.box
    clear hG hK hB hN hlen
    go_wp2_with fail
    refine (rkids04_any _ _ _).mono ?_
    rintro e w5 ⟨rfl, hb5⟩
    have HG5 := Lib.hid (HG.out.below hb5)
    rw [HC.out]
    have HMLE : Hid (∀ k1, m = .ok k1 → k1 ≤ E.l.length) := Lib.hid (fun k1 he => by subst he; exact HG5.out.rq.le)
    clear hb5 e0 e1 e2 e3 e4 HG
    by_cases hlt : x < c
    · have hltI : (x : Int) < (c : Int) := by omega
      have HPJ : Hid (((kd : Int) == 22) = false ∨ ((kd : Int) == 22) = true ∧ (((x : Int) == 2) = false ∨ ((x : Int) == 2) = true)) := Lib.hid (by
        by_cases h1 : kd = 22
        · refine .inr ⟨by simp [h1], ?_⟩
          by_cases h2 : (x : Int) = 2
          · exact .inr (by simp [h2])
          · exact .inl (by simp [h2])
        · exact .inl (by simp; omega))
      have HP12 : Hid (((kd : Int) == 12) = false ∨ ((kd : Int) == 12) = true ∧ (((x : Int) == 2) = false ∨ ((x : Int) == 2) = true)) := Lib.hid (by
        by_cases h1 : kd = 12
        · refine .inr ⟨by simp [h1], ?_⟩
          by_cases h2 : (x : Int) = 2
          · exact .inr (by simp [h2])
          · exact .inl (by simp [h2])
        · exact .inl (by simp; omega))
      go_upto_region 36 with fail
      go_cut [94] (fun s wx => s = .bool (decide (kd = 22 ∧ x = 2)) ∧ w5 = wx)
      case first =>
        rcases HPJ.out with p1 | ⟨p1, p2 | p2⟩
        · have HD8 : Hid (decide (kd = 22 ∧ x = 2) = false) := Lib.hid (by simp at p1 ⊢; omega)
          go_wp2_with fail
          go_meet
          case rel => exact ⟨by rw [HD8.out], rfl⟩
        · have HD8 : Hid (decide (kd = 22 ∧ x = 2) = false) := Lib.hid (by simp at p1 p2 ⊢; omega)
          go_wp2_with fail
          go_meet
          case rel => exact ⟨by rw [HD8.out], rfl⟩
        · have HD8 : Hid (decide (kd = 22 ∧ x = 2) = true) := Lib.hid (by simp at p1 p2 ⊢; omega)
          go_wp2_with fail
          go_meet
          case rel => exact ⟨by rw [HD8.out], rfl⟩
      case rest =>
      obtain ⟨rfl, rfl⟩ := hcut
      go_upto_if 94 with fail
      go_cut [8, 11] (fun s8 s11 wx => ∃ bnd', GQ E lv b w kd i j n nv' nm (m.go (bindM E kd x bnd)).md s8 bnd' rows (.slice av rows.length cv) wx ∧ (∀ s' k', m.go (bindM E kd x bnd) = .ok s' k' → bnd' = s') ∧ (0 < bindsK kd x → bindsK kd x = bnd'.length) ∧ BndOK kd bnd')
      case first =>
        by_cases hpq : kd = 22 ∧ x = 2
        · have HPQ := Lib.hid hpq
          have h8 : decide (kd = 22 ∧ x = 2) = true := by simp [hpq]
          generalize decide (kd = 22 ∧ x = 2) = b8 at h8
          clear hpq
          subst h8
          go_wp2_with fail
          refine (qwant3 HG5.out.rq).mono ?_
          rintro e w6 ⟨y, rfl, ht6, hy⟩
          have HG6 := Lib.hid (HG5.out.turn ht6 (md_good _ _))
          have HY := Lib.hid hy
          clear ht6 hy
          go_wp2_with fail
          refine (qwant3 HG6.out.rq).mono ?_
          rintro e w7 ⟨z, rfl, ht7, hz⟩
          have HG7 := Lib.hid ((HG6.out.turn ht7 (md_good _ _)).newnames [y, z] (by unfold maxLen; simp) _ rfl)
          have HN := Lib.hid (bind_yes HPQ.out bnd m HY.out hz)
          clear ht7 hz
          go_wp2_with fail
          go_meet
          case rel => exact ⟨[y, z], by rw [HN.out.1]; exact HG7.out, HN.out.2, fun _ => by rw [HPQ.out.1, HPQ.out.2, binds_22]; rfl, by simp, fun h22 => absurd HPQ.out.1 h22⟩
        · have h8 : decide (kd = 22 ∧ x = 2) = false := by simp; omega
          have HPQ := Lib.hid hpq
          have HN := Lib.hid (bind_no (E := E) hpq bnd m)
          generalize decide (kd = 22 ∧ x = 2) = b8 at h8
          clear hpq
          subst h8
          go_wp2_with fail
          go_meet
          case rel => exact ⟨bnd, by rw [HN.out.1]; exact HG5.out, HN.out.2, fun hp => by
            by_cases h22 : kd = 22
            · have h0 := hp
              rw [h22, binds_22] at h0
              split at h0
              · exact absurd ⟨h22, by assumption⟩ HPQ.out
              · omega
            · exact HK.out.2.1.2 h22 x hp, HK.out.2.1⟩
      case rest =>
      obtain ⟨bnd', hG6, hbd, hbl, hbk⟩ := hcut
      have HG6 := Lib.hid hG6
      have HBD := Lib.hid (And.intro hbd (And.intro hbl hbk))
      clear hG6 hbd hbl hbk HG5
      go_wp2_with fail
      refine (rbinds_any kd x _).mono ?_
      rintro e w7 ⟨rfl, rfl⟩
      obtain ⟨bi, hbi⟩ : ∃ bi : Nat, bindsK kd x = (bi : Int) := ⟨(bindsK kd x).toNat, by have := bindsK_in kd x; omega⟩
      have HBI := Lib.hid hbi
      rw [hbi]
      clear hbi
      obtain ⟨nmx, hnmx⟩ : ∃ nmx, (if 0 < bindsK kd x then nm ++ bnd' else nm) = nmx := ⟨_, rfl⟩
      have HNX := Lib.hid hnmx
      clear hnmx
      go_upto_if 105 with fail
      go_cut [] (fun wx => ∃ nv2, GQ E lv b w kd i j n nv2 nmx (m.go (bindM E kd x bnd)).md u8 bnd' rows (.slice av rows.length cv) wx ∧ NvOK w nv nv2)
      case first =>
        by_cases hp : 0 < bi
        · have hpi : (0 : Int) < (bi : Int) := by omega
          have HE : Hid (nmx = nm ++ bnd') := Lib.hid (by rw [← HNX.out, HBI.out, if_pos hpi])
          have hlb : nm.length + bnd'.length ≤ 8796093022208 := by have := HBD.out.2.2.1; omega
          clear hp
          go_wp2_with fail
          refine (qpush_any HG6.out.rq HG6.out.hasB hlb).mono ?_
          rintro e w8 ⟨rfl, hnq⟩
          obtain ⟨nv2, h1, h2, h3⟩ := hnq
          have HG8 := Lib.hid (HG6.out.move h1 h2 (.inr h3) id)
          have HN8 : Hid (NvOK w nv nv2) := Lib.hid (HK.out.2.2.next HG6.out.gr.size (.inr h3))
          clear h1 h2 h3
          go_wp2_with fail
          go_meet
          case rel => exact ⟨nv2, by rw [HE.out]; exact HG8.out, HN8.out⟩
        · have hpi : ¬ (0 : Int) < (bi : Int) := by omega
          have hpi' : (bi : Int) ≤ 0 := by omega
          have HE : Hid (nmx = nm) := Lib.hid (by rw [← HNX.out, HBI.out, if_neg hpi])
          clear hp
          go_wp2_with fail
          go_meet
          case rel => exact ⟨nv', by rw [HE.out]; exact HG6.out, HK.out.2.2⟩
      case rest =>
      obtain ⟨nv2, hG8, hN8⟩ := hcut
      have HG8 := Lib.hid hG8
      have HN8 := Lib.hid hN8
      clear hG8 hN8 HG6
      go_upto_region 43 with fail
      go_cut [115] (fun s wx => s = .bool (decide (kd = 12 ∧ x = 2)) ∧ GQ E lv b w kd i j n nv2 nmx (m.go (bindM E kd x bnd)).md u8 bnd' rows (.slice av rows.length cv) wx)
      case first =>
        rcases HP12.out with p1 | ⟨p1, p2 | p2⟩
        · have HD8 : Hid (decide (kd = 12 ∧ x = 2) = false) := Lib.hid (by simp at p1 ⊢; omega)
          go_wp2_with fail
          go_meet
          case rel => exact ⟨by rw [HD8.out], HG8.out⟩
        · have HD8 : Hid (decide (kd = 12 ∧ x = 2) = false) := Lib.hid (by simp at p1 p2 ⊢; omega)
          go_wp2_with fail
          go_meet
          case rel => exact ⟨by rw [HD8.out], HG8.out⟩
        · have HD8 : Hid (decide (kd = 12 ∧ x = 2) = true) := Lib.hid (by simp at p1 p2 ⊢; omega)
          go_wp2_with fail
          go_meet
          case rel => exact ⟨by rw [HD8.out], HG8.out⟩
      case rest =>
      obtain ⟨rfl, hG9⟩ := hcut
      have HG9 := Lib.hid hG9
      clear hG9 HG8
      obtain ⟨sn, hsn⟩ : ∃ sn : Nat, (ofK kd x).toNat = sn := ⟨_, rfl⟩
      have HSN := Lib.hid hsn
      clear hsn
      go_upto_if 115 with fail
      go_cut [13] (fun s13 wx => s13 = .int .i64 (sn : Nat) ∧ GQ E lv b w kd i j n nv2 nmx (m.go (bindM E kd x bnd)).md u8 bnd' rows (.slice av rows.length cv) wx)
      case first =>
        by_cases hpq : kd = 12 ∧ x = 2
        · have HOF : Hid ((sn : Int) = 2) := Lib.hid (by rw [← HSN.out]; unfold ofK; rw [if_pos (by omega)]; rfl)
          have h8 : decide (kd = 12 ∧ x = 2) = true := by simp [hpq]
          generalize decide (kd = 12 ∧ x = 2) = b8 at h8
          clear hpq
          subst h8
          go_wp2_with fail
          go_meet
          case rel => exact ⟨by rw [HOF.out], HG9.out⟩
        · have HOF : Hid (sv = (sn : Int)) := Lib.hid (by rw [← HSN.out]; exact HSV.out x (fun h => by have := HC1.out h; omega) hpq)
          have h8 : decide (kd = 12 ∧ x = 2) = false := by simp; omega
          generalize decide (kd = 12 ∧ x = 2) = b8 at h8
          clear hpq
          subst h8
          go_wp2_with fail
          go_meet
          case rel => exact ⟨by rw [← HOF.out], HG9.out⟩
      case rest =>
      obtain ⟨rfl, hGa⟩ := hcut
      have HGa := Lib.hid hGa
      clear hGa HG9
      have hnx : nmx.length ≤ nm.length + 2 := by
        have := HBD.out.2.2.1
        rw [← HNX.out]
        split
        · rw [List.length_append]; omega
        · omega
      have HCALL := Lib.hid (IH.out nv2 nmx (m.go (bindM E kd x bnd)).md sn _ HGa.out.rq (fun k1 hk1 => by
        have h1 := kid_fuel HK.out.1 HMLE.out hk1
        have h2 := HF.out
        omega) (by rw [← HSN.out]; exact (ofK_to kd x).2))
      clear hnx
      go_wp2_with fail
      refine HCALL.out.mono ?_
      rintro e w9 ⟨t, a1, l1, c1, nv3, rfl, hr9, hg9, hnv9, hval9⟩
      unfold termV
      have HG9 := Lib.hid (HGa.out.move hr9 hg9 hnv9 (md_good _ _))
      have HN9 : Hid (NvOK w nv nv3) := Lib.hid (HN8.out.next HGa.out.gr.size hnv9)
      have HVAL := Lib.hid hval9
      clear hr9 hg9 hnv9 hval9 HCALL
      obtain ⟨hif, hi0, hi1, hi2⟩ := HINF.out
      go_wp2_with (at_builtin; go_must (refine wpList_append_lies _ rfl (.tmp 116) (.tmp 120) 22 rfl (w.heap.size + 2) 24 i0 _ 5 56 Tryd.underlying22 hif hi0 hi1 hi2 rfl (by decide) _ rows.length (kidCells rows) rfl ?own ⟨w9.heap.size, 0, none⟩ 1 1 [.int .i64 t.kd, .int .i64 t.ni, .int .i64 t.nj, .int .i64 t.nn, .slice a1 l1 c1] rfl rfl ?news ?one (by decide) ?c3 ?c4 ?c5 (w9.heap.size + 1) (by simp) ?_))
      case own => exact (HG9.out.alloc _).own
      case news => exact World.news_of_block (cs := #[.int .i64 t.kd, .int .i64 t.ni, .int .i64 t.nj, .int .i64 t.nn, .slice a1 l1 c1]) (t := 24) (fr := (0, 0)) (heap_alloc_new w9 _)
      case one => simp [Value.oneCell']
      case c3 => unfold maxLen; omega
      case c4 => omega
      case c5 => have := HG9.out.big; simp; omega
      intro g cap w10 hown10 hgrow10 hat10 hlt10
      have HG10 := Lib.hid ((HG9.out.alloc _).push (fun x hx => (HGa.out.own.lt x hx).2) HGa.out.big (fun hm => rep_alloc (rep_of hm HVAL.out) _) hgrow10 (by simpa using hat10) hown10)
      have hkn := kid_step (v1 := .slice a1 l1 c1) (t := t) HK.out.1 hlt HMV.out HMLE.out HBD.out.1 (by rw [HNX.out, HSN.out]; exact fun t' k' h => (HVAL.out t' k' h).1)
      rw [HNX.out, HSN.out] at hkn
      have HKN := Lib.hid hkn
      clear hif hi0 hi1 hi2 hown10 hgrow10 hat10 hlt10 hkn
      by_cases hp : 0 < bi
      · have hpi : (0 : Int) < (bi : Int) := by omega
        have he : nmx = nm ++ bnd' := by rw [← HNX.out, HBI.out, if_pos hpi]
        have hbb : bi = bnd'.length := by
          have h1 := HBD.out.2.1
          rw [HBI.out] at h1
          have := h1 hpi
          omega
        subst he
        subst hbb
        clear hp
        go_wp2_with fail
        refine (qpop_any (names := bnd') HG10.out.rq).mono ?_
        rintro e w11 ⟨rfl, hnq⟩
        obtain ⟨nv4, h1, h2, h3⟩ := hnq
        have HG11 := Lib.hid (HG10.out.move h1 h2 (.inr h3) id)
        have HN11 : Hid (NvOK w nv nv4) := Lib.hid (HN9.out.next HG10.out.gr.size (.inr h3))
        clear h1 h2 h3
        go_wp2
        go_roundw
        case rel => exact ⟨x + 1, nv4, bnd', _, _, by go_num, by omega, by simp [HLEN.out], HG11.out, HKN.out, HBD.out.2.2, HN11.out⟩
        case measure => simp [intOf]; omega
      · have hpi : ¬ (0 : Int) < (bi : Int) := by omega
        have hpi' : (bi : Int) ≤ 0 := by omega
        have he : nmx = nm := by rw [← HNX.out, HBI.out, if_neg hpi]
        subst he
        clear hp
        go_wp2
        go_roundw
        case rel => exact ⟨x + 1, nv3, bnd', _, _, by go_num, by omega, by simp [HLEN.out], HG10.out, HKN.out, HBD.out.2.2, HN9.out⟩
        case measure => simp [intOf]; omega
    · obtain rfl : x = c := by omega
      have HEND := Lib.hid (kid_end HK.out.1)
      clear hlt
      go_wp2_with fail
      refine (qwant2 HG5.out.rq).mono ?_
      rintro e w6 ⟨s, rfl, ht6⟩
      have HG6 := Lib.hid (HG5.out.turn ht6 (md_good _ _))
      clear ht6
      have HPOST : Hid (∀ W', set5 (w6.setCell ⟨w.heap.size + 1, 4, none⟩ (.slice av rows.length cv)) w.heap.size (.int .i64 kd) (.int .i64 i) (.int .i64 j) (.int .i64 n) (.slice av rows.length cv) = W' →
          W'.heap[w.heap.size]? = some (.cells #[.int .i64 kd, .int .i64 i, .int .i64 j, .int .i64 n, .slice av rows.length cv] 24 (0, 0)) ∧ TermQPost E lv b w nv nm (bodyM E F nm kd k) (.returned (termV kd i j n (.slice av rows.length cv))) W') := Lib.hid (fun W' hW' => by
        have hfin := HG6.out.final _ _ _ _ hW'
        have hj := body_join (t := .node kd i j n (rows.map Prod.fst)) HHEAD.out HNM2.out HRR.out (fun ks k' h => by rw [HEND.out.2 ks k' h])
        refine ⟨hfin.1, .node kd i j n (rows.map Prod.fst), av, rows.length, cv, nv', rfl, ?_, hfin.2.2.1, HK.out.2.2, fun t' k' h => ⟨(hj.2 t' k' h).1, ?_, ?_⟩⟩
        · rw [← hj.1, ← HEND.out.1]; exact hfin.2.1
        · refine hfin.2.2.2 ?_
          rw [HEND.out.1, hj.1, h]; rfl
        · have h1 := HKD.out
          have h2 := HNIJ.out
          exact in4_of ⟨by omega, by omega⟩ ⟨by omega, by omega⟩ ⟨by omega, by omega⟩ ⟨by omega, by omega⟩)
      obtain ⟨e0, e1, e2, e3, e4, q0, q1, q2, q3, q4⟩ := cells5 HG6.out.box
      obtain ⟨r0, r1, r2, r3, r4, g0, g1, g2, g3, g4⟩ := cells5 HG6.out.res
      have hne : ¬ w.heap.size = w.heap.size + 1 := by omega
      have hne' : ¬ w.heap.size + 1 = w.heap.size := by omega
      have hbig := HG6.out.big
      go_wp2
      have hfin := HPOST.out _ rfl
      unfold set5 at hfin
      obtain ⟨x0, x1, x2, x3, x4, _⟩ := cells5 hfin.1
      exact bodyPost_ret (v := termV kd i j n (.slice av rows.length cv)) (by simp [results, Tryd.results39, go_sem, x0, x1, x2, x3, x4, termV]) rfl hfin.2
end
end Go.Proofs.YtfklmcmoackepaaDoor
