/- Walk of the page's Term. -/
import Derived.Test.YtfklmcmoackepaaDoorQh
namespace Go.Proofs.YtfklmcmoackepaaDoor
open Go.RowKit

section
variable {E : REnv} {lv : Value} {b : Nat} {w : World} {nv : Value} {nm : List (List UInt8)} {k : Nat}

def zeroB : Obj := .cells #[.int .i64 0, .int .i64 0, .int .i64 0, .int .i64 0, .slice none 0 0] 24
theorem zeroB_at (w : World) : (w.alloc zeroB).heap[w.heap.size]? = some (.cells #[.int .i64 0, .int .i64 0, .int .i64 0, .int .i64 0, .slice none 0 0] 24 (0, 0)) := heap_alloc_new w _
/-- a zero result, the names as they were -/
theorem zeroPost {r : RR TT} {m0 m : Md} {W W' : World} (h0 : Rq E lv b w nv nm m0) (hr : Rq E lv b W nv nm m) (g : (w.alloc zeroB).grownBy W (some b)) (hm : r = match m with | .ok k => .bad k | .bad q => .bad q) (hbad : m.isBad = true)
    (hW : set5 W w.heap.size (.int .i64 0) (.int .i64 0) (.int .i64 0) (.int .i64 0) (.slice none 0 0) = W') :
    W'.heap[w.heap.size]? = some (.cells #[.int .i64 0, .int .i64 0, .int .i64 0, .int .i64 0, .slice none 0 0] 24 (0, 0)) ∧ TermQPost E lv b w nv nm r (.returned (termV 0 0 0 0 (.slice none 0 0))) W' := by
  have hres : W.heap[w.heap.size]? = some (.cells #[.int .i64 0, .int .i64 0, .int .i64 0, .int .i64 0, .slice none 0 0] 24 (0, 0)) := by
    rw [g.block w.heap.size (by simp) (by have := h0.lt; simp; omega)]
    exact zeroB_at w
  have h5 := set5Q h0 hr (grown_trans (grown_below (below_alloc _ _)) g) hres (fun x hx => by have := h0.hasN.own_lt x hx; omega) _ _ _ _ _ hW
  cases m with
  | ok k => simp [Md.isBad] at hbad
  | bad q =>
    subst hm
    exact ⟨h5.1, .node 0 0 0 0 [], none, 0, 0, nv, rfl, h5.2.1, h5.2.2, .inl rfl, fun t' k' h => by cases h⟩

set_option maxHeartbeats 4000000 in
set_option maxRecDepth 100000 in
theorem qterm_bad (want : Int) {q : Nat} (h : Rq E lv b w nv nm (.bad q)) :
    Calls Tryd.prog 23 #[.pointer (some ⟨b, 0, none⟩), .int .i64 want] w (TermQPost E lv b w nv nm (.bad q)) := by
  have H0 := Lib.hid h
  have hr := h.kept (below_alloc w zeroB)
  have HR := Lib.hid hr
  obtain ⟨kk, h0, h1, _, c0, c1, c2, c5⟩ := hr.at'
  have hq : (0 : Int) ≤ (q : Int) := by omega
  obtain ⟨r0, r1, r2, r3, r4, g0, g1, g2, g3, g4⟩ := cells5 (zeroB_at w)
  clear h hr h0 h1
  unfold zeroB at c0 c1 c2 c5 r0 r1 r2 r3 r4 g0 g1 g2 g3 g4
  go_enter Tryd.func23, Tryd.ntmps23
  go_wp2
  refine bodyPost_ret (v := termV 0 0 0 0 (.slice none 0 0)) (by simp [results, Tryd.results23, go_sem, r0, r1, r2, r3, r4, termV]) rfl ?_
  exact ⟨.node 0 0 0 0 [], none, 0, 0, nv, rfl, HR.out, grown_below (below_alloc _ _), .inl rfl, fun t' k' h => by cases h⟩

set_option maxHeartbeats 8000000 in
set_option maxRecDepth 100000 in
/-- neither a name nor a list -/
theorem qterm_miss (fuel want : Nat) (h3 : kindAt E.l k ≠ 3) (h1 : kindAt E.l k ≠ 1) (h : Rq E lv b w nv nm (.ok k)) :
    Calls Tryd.prog 23 #[.pointer (some ⟨b, 0, none⟩), .int .i64 want] w (TermQPost E lv b w nv nm (termM E (fuel + 1) nm want k)) := by
  have HV : Hid (termM E (fuel + 1) nm want k = .bad k) := Lib.hid (by unfold termM; rw [if_neg h3, if_pos h1])
  have H0 := Lib.hid h
  have hr := h.kept (below_alloc w zeroB)
  have HR := Lib.hid hr
  obtain ⟨_, c0, c1, c2, c3, c4, c5⟩ := hr.at
  have H1 := Lib.hid h1
  have k3 : ((kindAt E.l k : Int) == 3) = false := by simp; omega
  rw [HV.out]
  clear h hr h3 h1
  go_enter Tryd.func23, Tryd.ntmps23
  unfold zeroB at HR c0 c1 c2 c3 c4 c5
  go_wp2_with fail
  refine (qkindT HR.out).mono ?_
  rintro e w1 ⟨rfl, ht1⟩
  have HR1 := Lib.hid ht1.1
  have HG1 := Lib.hid ht1.2
  clear ht1 c0 c1 c2 c3 c4 c5
  go_wp2_with fail
  refine (qwant_miss 1 H1.out HR1.out).mono ?_
  rintro e w2 ⟨rfl, ht2⟩
  have HR2 := Lib.hid ht2.1
  have HG2 := Lib.hid (grown_trans HG1.out ht2.2)
  clear ht2
  obtain ⟨kk, hk0, hk1, _, c0, c1, c2, c5⟩ := HR2.out.at'
  have hq : (0 : Int) ≤ (k : Int) := by omega
  have hres : w2.heap[w.heap.size]? = some (.cells #[.int .i64 0, .int .i64 0, .int .i64 0, .int .i64 0, .slice none 0 0] 24 (0, 0)) := by
    rw [HG2.out.block w.heap.size (by simp) (by have := H0.out.lt; simp; omega)]
    exact zeroB_at w
  obtain ⟨r0, r1, r2, r3, r4, g0, g1, g2, g3, g4⟩ := cells5 hres
  clear hres hk0 hk1
  go_wp2
  have hset := zeroPost (r := .bad k) H0.out HR2.out HG2.out rfl rfl rfl
  unfold set5 at hset
  obtain ⟨x0, x1, x2, x3, x4, _⟩ := cells5 hset.1
  exact bodyPost_ret (v := termV 0 0 0 0 (.slice none 0 0)) (by simp [results, Tryd.results23, go_sem, x0, x1, x2, x3, x4, termV]) rfl hset.2

set_option maxHeartbeats 8000000 in
set_option maxRecDepth 100000 in
/-- a name -/
theorem qterm_name (fuel want : Nat) (hk : kindAt E.l k = 3) (h : Rq E lv b w nv nm (.ok k)) :
    Calls Tryd.prog 23 #[.pointer (some ⟨b, 0, none⟩), .int .i64 want] w (TermQPost E lv b w nv nm (termM E (fuel + 1) nm want k)) := by
  have hV : termM E (fuel + 1) nm want k = match lookM nm (textAt E.l k) with
      | some x => .ok (.node 2 x 0 0 []) (k + 1)
      | none => .bad k := by unfold termM; rw [if_pos hk]; cases lookM nm (textAt E.l k) <;> rfl
  have HV := Lib.hid hV
  have H0 := Lib.hid h
  have hr := h.kept (below_alloc w zeroB)
  have HR := Lib.hid hr
  obtain ⟨_, c0, c1, c2, c3, c4, c5⟩ := hr.at
  have k3 : ((kindAt E.l k : Int) == 3) = true := by simp [hk]
  have hlt := kindAt_lt (l := E.l) (k := k) (by omega)
  have hlen := h.len
  have hnl := h.names
  have hw0 := h.lt
  have hne1 : ¬ w.heap.size = b := by omega
  have hne2 : ¬ b = w.heap.size := by omega
  clear h hr hk hV
  generalize termM E (fuel + 1) nm want k = R at HV
  go_enter Tryd.func23, Tryd.ntmps23
  unfold zeroB at HR c0 c1 c2 c3 c4 c5
  go_wp2_with fail
  refine (qkindT HR.out).mono ?_
  rintro e w1 ⟨rfl, ht1⟩
  have HR1 := Lib.hid ht1.1
  have HG1 : Hid ((w.alloc zeroB).grownBy w1 (some b)) := Lib.hid ht1.2
  clear ht1 c0 c1 c2 c3 c4 c5 HR
  obtain ⟨an, cn, hnv⟩ : ∃ a c, nv = .slice a nm.length c := by
    rcases HR1.out.hasN.2 with ⟨rfl, h0⟩ | ⟨bt, o, c, rfl, hn, hbt, hcells⟩
    · exact ⟨none, 0, by rw [h0]⟩
    · exact ⟨_, _, rfl⟩
  have HNM : Hid (∀ p, (hp : p < nm.length) → ∃ bn o, an = some ⟨bn, o, none⟩ ∧ w1.cell? ⟨bn, o + p, none⟩ = some (.string ⟨nm[p].toArray⟩)) := Lib.hid (fun p hp => by
    rcases HR1.out.hasN.2 with ⟨h1, h0⟩ | ⟨bt, o, c, h1, hn, hbt, hcells⟩
    · omega
    · rw [hnv] at h1
      cases h1
      refine ⟨bt, o, rfl, ?_⟩
      rw [hcells p (by omega)]
      simp [textRow, hp])
  subst hnv
  obtain ⟨_, c0, c1, c2, c3, c4, c5⟩ := HR1.out.at
  have hres : w1.heap[w.heap.size]? = some (.cells #[.int .i64 0, .int .i64 0, .int .i64 0, .int .i64 0, .slice none 0 0] 24 (0, 0)) := by
    rw [HG1.out.block w.heap.size (by simp) (by simp; omega)]
    exact zeroB_at w
  have HRES := Lib.hid hres
  clear hres
  go_wp2_with fail
  go_loopw [5] (fun kv wr => ∃ (q m : Nat), kv = .int .i64 ((q : Int) - 1) ∧ q ≤ nm.length ∧ (∀ x, q ≤ x → x < nm.length → nm[x]? ≠ some (textAt E.l k)) ∧ wr = w1.drewN m) (fun i _ => (intOf i + 1).toNat)
  case atStart => exact ⟨nm.length, 0, rfl, Nat.le_refl _, fun x h1 h2 => by omega, rfl⟩
  case round =>
    obtain ⟨q, m, rfl, hq, hno, rfl⟩ := hrel
    have HNO := Lib.hid hno
    clear hno
    cases q with
    | zero =>
      have HL : Hid (R = .bad k) := Lib.hid (by rw [HV.out, look_none fun x hx => HNO.out x (Nat.zero_le _) hx])
      have hm1 : ((0 : Nat) : Int) - 1 = -1 := rfl
      rw [hm1]
      go_wp2_with fail
      refine (qfail_ok k (HR1.out.drewN m)).mono ?_
      rintro e w4 ⟨rfl, ht4⟩
      have HR4 := Lib.hid ht4.1
      have HG4 : Hid ((w.alloc zeroB).grownBy w4 (some b)) := Lib.hid (grown_trans (grown_drewN HG1.out m) ht4.2)
      have hh1 : w4.heap[w.heap.size]? = some (.cells #[.int .i64 0, .int .i64 0, .int .i64 0, .int .i64 0, .slice none 0 0] 24 (0, 0)) := by
        rw [HG4.out.block w.heap.size (by simp) (by simp; omega)]
        exact zeroB_at w
      clear ht4 c0 c1 c2 c3 c4 c5
      obtain ⟨r0, r1, r2, r3, r4, g0, g1, g2, g3, g4⟩ := cells5 hh1
      clear hh1
      go_wp2
      have hset := zeroPost (r := .bad k) H0.out HR4.out HG4.out rfl rfl rfl
      unfold set5 at hset
      obtain ⟨x0, x1, x2, x3, x4, _⟩ := cells5 hset.1
      exact bodyPost_ret (v := termV 0 0 0 0 (.slice none 0 0)) (by simp [results, Tryd.results23, go_sem, x0, x1, x2, x3, x4, termV]) rfl (by rw [HL.out]; exact hset.2)
    | succ p =>
      have hz : ((p + 1 : Nat) : Int) - 1 = (p : Int) := by omega
      rw [hz]
      have hplt : p < nm.length := by omega
      obtain ⟨bn, on, han, hnc⟩ := HNM.out p hplt
      subst han
      have HX : Hid (nm[p]? = some nm[p]) := Lib.hid (List.getElem?_eq_getElem hplt)
      generalize nm[p] = sp at hnc HX
      have y1 : ¬ (nm.length ≤ p) := by omega
      have y2 : ¬ ((nm.length : Int) ≤ (p : Int)) := by omega
      have y3 : (p : Int) < (nm.length : Int) := by omega
      have y4 : IntKind.i64.wrap (p : Int) = (p : Int) := by rw [IntKind.wrap_i64]; omega
      by_cases he : sp = textAt E.l k
      · have hb2 : (sp == textAt E.l k) = true := by rw [he]; exact beq_self_eq_true _
        have HL : Hid (R = .ok (.node 2 (nm.length - 1 - p : Nat) 0 0 []) (k + 1)) := Lib.hid (by rw [HV.out, look_some (by rw [HX.out, he]) fun x h1 h2 => HNO.out x (by omega) h2])
        clear he
        have f1 := HR1.out.fz 1
        have hbl := HR1.out.lt
        go_wp2_with fail
        go_quiet ((go_at_call 37; exact qwordQ HR1.out _ _))
        revert nq
        intro n1
        have HR4 := Lib.hid ((HR1.out.drewN (m + n1)).step (k + 1) hlt)
        have HG4 : Hid ((w.alloc zeroB).grownBy ((w1.drewN (m + n1)).setCell ⟨b, 1, none⟩ (.int .i64 ((k + 1 : Nat) : Int))) (some b)) := Lib.hid (grown_set (grown_drewN HG1.out _) 1 _)
        obtain ⟨r0, r1, r2, r3, r4, g0, g1, g2, g3, g4⟩ := cells5 HRES.out
        have hx1 : ((nm.length - 1 - p : Nat) : Int) = (nm.length : Int) - 1 - (p : Int) := by omega
        have HX1 := Lib.hid hx1
        clear hx1
        go_wp2
        have hres2 : ((w1.drewN (m + n1)).setCell ⟨b, 1, none⟩ (.int .i64 ((k + 1 : Nat) : Int))).heap[w.heap.size]? = some (.cells #[.int .i64 0, .int .i64 0, .int .i64 0, .int .i64 0, .slice none 0 0] 24 (0, 0)) := by
          rw [HG4.out.block w.heap.size (by simp) (by simp; omega)]
          exact zeroB_at w
        have hset := set5Q H0.out HR4.out (grown_trans (grown_below (below_alloc _ _)) HG4.out) hres2 (fun x hx => by have := H0.out.hasN.own_lt x hx; omega) (.int .i64 2) (.int .i64 (nm.length - 1 - p : Nat)) (.int .i64 0) (.int .i64 0) (.slice none 0 0) rfl
        have hfin : TermQPost E lv b w (.slice (some ⟨bn, on, none⟩) nm.length cn) nm R (.returned (termV 2 (nm.length - 1 - p : Nat) 0 0 (.slice none 0 0))) (set5 ((w1.drewN (m + n1)).setCell ⟨b, 1, none⟩ (.int .i64 ((k + 1 : Nat) : Int))) w.heap.size (.int .i64 2) (.int .i64 (nm.length - 1 - p : Nat)) (.int .i64 0) (.int .i64 0) (.slice none 0 0)) := by
          rw [HL.out]
          refine ⟨.node 2 (nm.length - 1 - p : Nat) 0 0 [], none, 0, 0, _, rfl, hset.2.1, hset.2.2, .inl rfl, fun t' k' h => ?_⟩
          cases h
          exact ⟨rfl, .nil _ _, in4_of ⟨by omega, by omega⟩ ⟨by omega, by omega⟩ ⟨by omega, by omega⟩ ⟨by omega, by omega⟩⟩
        have hset1 := hset.1
        unfold set5 at hset1 hfin
        rw [HX1.out] at hset1 hfin
        simp only [Int.natCast_add, Int.natCast_one] at hset1 hfin
        obtain ⟨x0, x1, x2, x3, x4, _⟩ := cells5 hset1
        exact bodyPost_ret (v := termV 2 ((nm.length : Int) - 1 - (p : Int)) 0 0 (.slice none 0 0)) (by simp [results, Tryd.results23, go_sem, x0, x1, x2, x3, x4, termV]) rfl hfin
      · have hb2 : (sp == textAt E.l k) = false := beq_eq_false_iff_ne.2 he
        have HNO2 : Hid (∀ x, p ≤ x → x < nm.length → nm[x]? ≠ some (textAt E.l k)) := Lib.hid (fun x h1 h2 h3 => by
          rcases Nat.lt_or_ge p x with h4 | h4
          · exact HNO.out x (by omega) h2 h3
          · have : x = p := by omega
            subst this
            rw [HX.out] at h3
            exact he (Option.some.inj h3))
        clear he
        go_wp2_with fail
        go_quiet ((go_at_call 37; exact qwordQ HR1.out _ _))
        go_wp2
        go_roundw
        case rel => exact ⟨p, m + nq, (by first | rfl | go_num), by omega, HNO2.out, by simp⟩
        case measure => simp [intOf]

set_option maxHeartbeats 8000000 in
set_option maxRecDepth 100000 in
/-- a list -/
theorem qterm_list (fuel want : Nat) (hw2 : want ≤ 2) (ih : TermQC E lv b fuel) (htx : ∀ k, kindAt E.l k = 3 → textAt E.l k ≠ []) (h1 : kindAt E.l k = 1) (hf : E.l.length < k + (fuel + 1)) (hnl : nm.length + E.l.length ≤ 2199023255552 + k) (h : Rq E lv b w nv nm (.ok k)) :
    Calls Tryd.prog 23 #[.pointer (some ⟨b, 0, none⟩), .int .i64 want] w (TermQPost E lv b w nv nm (termM E (fuel + 1) nm want k)) := by
  have H0 := Lib.hid h
  have hr := h.kept (below_alloc w zeroB)
  have HR := Lib.hid hr
  obtain ⟨_, c0, c1, c2, c3, c4, c5⟩ := hr.at
  have H1 := Lib.hid h1
  have k3 : ((kindAt E.l k : Int) == 3) = false := by simp; omega
  have HW2 := Lib.hid hw2
  have HTX := Lib.hid (htx (k + 1))
  have hkd : termM E (fuel + 1) nm want k = if kindQ E want (k + 1) = 0 then .bad (k + 1) else bodyM E (termM E fuel) nm (kindQ E want (k + 1)) (k + 2) := by
    unfold termM kindQ
    rw [if_neg (by omega), if_neg (by omega)]
    by_cases h3 : kindAt E.l (k + 1) = 3
    · rw [if_neg (by omega), if_pos h3]
      by_cases hwr : wrongM want (kindW (textAt E.l (k + 1))) = true
      · rw [if_pos hwr, if_pos hwr, if_pos rfl]
      · rw [if_neg hwr, if_neg hwr]
        rw [if_neg]
        intro h0
        apply hwr
        unfold wrongM
        simp [h0]
    · rw [if_pos h3, if_neg h3, if_pos rfl]
  have hkq : kindQ E want (k + 1) ≠ 0 → kindQ E want (k + 1) ≤ 23 ∧ kindQ E want (k + 1) ≠ 2 ∧ k + 1 < E.l.length := fun hz => by
    unfold kindQ at hz ⊢
    by_cases h3 : kindAt E.l (k + 1) = 3
    · have hlt := kindAt_lt (l := E.l) (k := k + 1) (by omega)
      rw [if_pos h3] at hz ⊢
      have hn2 := kindW_ne2 (textAt E.l (k + 1))
      have hle : kindW (textAt E.l (k + 1)) ≤ 23 := by unfold kindW; (repeat' split) <;> omega
      split at hz
      · exact absurd rfl hz
      · rename_i hwr
        rw [if_neg hwr]
        exact ⟨hle, hn2, hlt⟩
    · rw [if_neg h3] at hz
      exact absurd rfl hz
  have HKD := Lib.hid hkd
  have HKQ := Lib.hid hkq
  have HF := Lib.hid (And.intro hf hnl)
  have IH := Lib.hid ih
  have hk := kindAt_lt (l := E.l) (k := k) (by omega)
  have hlen := h.len
  clear h hr h1 hkd hkq hf hnl ih hw2 htx
  generalize termM E (fuel + 1) nm want k = R at HKD
  go_enter Tryd.func23, Tryd.ntmps23
  unfold zeroB at HR c0 c1 c2 c3 c4 c5
  go_wp2_with fail
  refine (qkindT HR.out).mono ?_
  rintro e w1 ⟨rfl, ht1⟩
  have HR1 := Lib.hid ht1.1
  have HG1 := Lib.hid ht1.2
  clear ht1 c0 c1 c2 c3 c4 c5
  go_wp2_with fail
  refine (qwant_ok 1 (by decide) H1.out HR1.out).mono ?_
  rintro e w2 ⟨rfl, ht2⟩
  have HR2 := Lib.hid ht2.1
  have HG2 := Lib.hid (grown_trans HG1.out ht2.2)
  clear ht2
  obtain ⟨_, c0, c1, c2, c3, c4, c5⟩ := HR2.out.at
  go_wp2_with fail
  refine (qlist_any want HW2.out HTX.out HR2.out).mono ?_
  rintro e w3 ⟨rfl, ht3⟩
  have HR3 := Lib.hid ht3.1
  have HG3 := Lib.hid (grown_trans HG2.out ht3.2)
  clear ht3 c0 c1 c2 c3 c4 c5
  have hres : ∀ W : World, (w.alloc zeroB).grownBy W (some b) → W.heap[w.heap.size]? = some (.cells #[.int .i64 0, .int .i64 0, .int .i64 0, .int .i64 0, .slice none 0 0] 24 (0, 0)) := fun W hg => by
    rw [hg.block w.heap.size (by simp) (by have := H0.out.lt; simp; omega)]
    exact zeroB_at w
  have HRES := Lib.hid hres
  clear hres
  obtain ⟨_, c0, c1, c2, c3, c4, c5⟩ := HR3.out.at
  obtain ⟨kd, hkd⟩ : ∃ kd, kindQ E want (k + 1) = kd := ⟨_, rfl⟩
  rw [hkd] at HKD HKQ
  rw [hkd]
  clear hkd
  by_cases hz : kd = 0
  · have hz2 : ((kd : Int) == 0) = true := by simp [hz]
    have HV : Hid (R = .bad (k + 1)) := Lib.hid (by rw [HKD.out, if_pos hz])
    clear hz
    go_wp2_with fail
    refine (qfail_ok (k + 1) HR3.out).mono ?_
    rintro e w4 ⟨rfl, ht4⟩
    have HR4 := Lib.hid ht4.1
    have HG4 := Lib.hid (grown_trans HG3.out ht4.2)
    clear ht4 c0 c1 c2 c3 c4 c5
    obtain ⟨r0, r1, r2, r3, r4, g0, g1, g2, g3, g4⟩ := cells5 (HRES.out _ HG4.out)
    go_wp2
    have hset := zeroPost (r := .bad (k + 1)) H0.out HR4.out HG4.out rfl rfl rfl
    unfold set5 at hset
    obtain ⟨x0, x1, x2, x3, x4, _⟩ := cells5 hset.1
    exact bodyPost_ret (v := termV 0 0 0 0 (.slice none 0 0)) (by simp [results, Tryd.results23, go_sem, x0, x1, x2, x3, x4, termV]) rfl (by rw [HV.out]; exact hset.2)
  · have hz2 : ((kd : Int) == 0) = false := by simp [hz]
    have HV : Hid (R = bodyM E (termM E fuel) nm kd (k + 2)) := Lib.hid (by rw [HKD.out, if_neg hz])
    obtain ⟨q1, q2, q3⟩ := HKQ.out hz
    have f1 := HR3.out.fz 1
    have hbl := HR3.out.lt
    have HR4 := Lib.hid (HR3.out.step (k + 2) (by omega))
    have HG4 : Hid ((w.alloc zeroB).grownBy (w3.setCell ⟨b, 1, none⟩ (.int .i64 ((k + 2 : Nat) : Int))) (some b)) := Lib.hid (grown_set HG3.out 1 _)
    have HQ : Hid (1 ≤ kd ∧ kd ≤ 23 ∧ kd ≠ 2) := Lib.hid ⟨by omega, q1, q2⟩
    clear hz
    go_wp2_with fail
    clear c0 c1 c2 c3 c4 c5
    have hcast : ((k + 1 : Nat) : Int) + 1 = ((k + 2 : Nat) : Int) := by omega
    first | rw [hcast] | skip
    refine (qbody_any fuel IH.out HQ.out.1 HQ.out.2.1 HQ.out.2.2 (by simpa [Int.add_assoc] using HR4.out) (by have := HF.out.1; omega) (by have := HF.out.2; omega)).mono ?_
    rintro e w5 ⟨t, a, l, c, nv', rfl, hr5, hg5, hnv, hval⟩
    have HG5 : Hid ((w.alloc zeroB).grownBy w5 (some b)) := Lib.hid (grown_trans (grown_set HG3.out 1 _) hg5)
    have HR5 := Lib.hid hr5
    have hsz3 : w.heap.size + 1 ≤ w3.heap.size := by have := HG3.out.size; simpa using this
    have hss : ∀ v, (w3.setCell ⟨b, 1, none⟩ v).heap.size = w3.heap.size := fun v => by simp [World.setCell]
    have hnv5 : nv' = nv ∨ ∀ x, nv'.ownBlock = some x → w.heap.size + 1 ≤ x := hnv.imp id (fun hx x h => by have := hx x h; rw [hss] at this; omega)
    have HNV : Hid ((∀ x, nv'.ownBlock = some x → x ≠ w.heap.size) ∧ (nv' = nv ∨ ∀ x, nv'.ownBlock = some x → w.heap.size ≤ x)) := Lib.hid ⟨fun x hx => by
      rcases hnv5 with rfl | h
      · have := H0.out.hasN.own_lt x hx; omega
      · have := h x hx; omega, hnv5.imp id (fun h x hx => by have := h x hx; omega)⟩
    have HVAL : Hid (∀ t' k', R = .ok t' k' → t' = t ∧ RepTS w5 (fun x => w.heap.size + 1 ≤ x) t.kids (.slice a l c) ∧ t.in4) := Lib.hid (fun t' k' he => by
      rw [HV.out] at he
      obtain ⟨h1, h2, h3⟩ := hval t' k' he
      exact ⟨h1, h2.kept (Nat.le_refl _) fun x hx _ => ⟨rfl, by rw [hss] at hx; omega⟩, h3⟩)
    rw [← HV.out] at HR5
    clear hg5 hr5 hnv hnv5 hval hsz3 hss f1 hbl
    have hres5 := HRES.out _ HG5.out
    have HRES5 := Lib.hid hres5
    obtain ⟨r0, r1, r2, r3, r4, g0, g1, g2, g3, g4⟩ := cells5 hres5
    clear hres5
    unfold termV
    go_wp2
    have hset := set5Q H0.out HR5.out (grown_trans (grown_below (below_alloc _ _)) HG5.out) HRES5.out HNV.out.1 (.int .i64 t.kd) (.int .i64 t.ni) (.int .i64 t.nj) (.int .i64 t.nn) (.slice a l c) rfl
    have hfin : TermQPost E lv b w nv nm R (.returned (termV t.kd t.ni t.nj t.nn (.slice a l c))) (set5 w5 w.heap.size (.int .i64 t.kd) (.int .i64 t.ni) (.int .i64 t.nj) (.int .i64 t.nn) (.slice a l c)) := by
      refine ⟨t, a, l, c, nv', rfl, hset.2.1, hset.2.2, HNV.out.2, fun t' k' he => ?_⟩
      obtain ⟨h1, h2, h3⟩ := HVAL.out t' k' he
      exact ⟨h1, h2.kept (by rw [set5_size]; exact Nat.le_refl _) fun x hx _ => ⟨set5_other _ _ _ _ _ _ _ (by omega), by omega⟩, h3⟩
    have hset1 := hset.1
    unfold set5 at hset1 hfin
    obtain ⟨x0, x1, x2, x3, x4, _⟩ := cells5 hset1
    exact bodyPost_ret (v := termV t.kd t.ni t.nj t.nn (.slice a l c)) (by simp [results, Tryd.results23, go_sem, x0, x1, x2, x3, x4, termV]) rfl hfin

theorem qterm_any (htx : ∀ k, kindAt E.l k = 3 → textAt E.l k ≠ []) : ∀ fuel, TermQC E lv b fuel
  | 0, nv, nm, m, want, w, h, hf, hw2 => by
    cases m with
    | ok k => have := (hf k rfl).1; have := h.le; omega
    | bad q => exact qterm_bad want h
  | fuel + 1, nv, nm, m, want, w, h, hf, hw2 => by
    cases m with
    | bad q => exact qterm_bad want h
    | ok k =>
      obtain ⟨h1, h2⟩ := hf k rfl
      show Calls _ _ _ _ (TermQPost E lv b w nv nm (termM E (fuel + 1) nm want k))
      by_cases h3 : kindAt E.l k = 3
      · exact qterm_name fuel want h3 h
      · by_cases hk1 : kindAt E.l k = 1
        · exact qterm_list fuel want hw2 (qterm_any htx fuel) htx hk1 h1 h2 h
        · exact qterm_miss fuel want h3 hk1 h
end
end Go.Proofs.YtfklmcmoackepaaDoor
