/- Walk of the reader's term.  -/
import Derived.Test.YtfklmcmoackepaaDoorSv
namespace Go.Proofs.YtfklmcmoackepaaDoor
open Go.RowKit

/-- a name -/
def nameM (E : REnv) (nm : List (List UInt8)) (k : Nat) : RR TT := match lookM nm (textAt E.l k) with
  | some x => .ok (.node 2 x 0 0 []) (k + 1)
  | none => .bad k

section
variable {E : REnv} {lv : Value} {en : Int} {b : Nat} {w : World} {nv : Value} {nm : List (List UInt8)}

theorem kindW_le (s : List UInt8) : kindW s ≤ 23 := by
  unfold kindW
  split
  · omega
  · split <;> omega
theorem kindW_ne2 (s : List UInt8) : kindW s ≠ 2 := by
  unfold kindW
  split
  · omega
  · rename_i h0
    split
    · rename_i h1
      intro h2
      have h3 : markWords.idxOf s = 1 := by omega
      have h4 : markWords[markWords.idxOf s]'(by rw [h3]; decide) = s := List.getElem_idxOf (by rw [h3]; decide)
      apply h0
      rw [← h4]
      simp only [h3]
      rfl
    · omega

/-- the zero term laid as the result -/
theorem zero_end {W : World} {m m0 : Md} (h0 : Rr E lv en b w nv nm m0) (ht : Turn E lv en b w nv nm m W) (hres : W.heap[w.heap.size]? = some (.cells zero5 24 (0, 0))) :
    ∃ W', ((((W.setCell ⟨w.heap.size, 0, none⟩ (.int .i64 0)).setCell ⟨w.heap.size, 1, none⟩ (.int .i64 0)).setCell ⟨w.heap.size, 2, none⟩ (.int .i64 0)).setCell ⟨w.heap.size, 3, none⟩ (.int .i64 0)).setCell ⟨w.heap.size, 4, none⟩ (.slice none 0 0) = W' ∧
      Turn E lv en b w nv nm m W' ∧ W'.heap[w.heap.size]? = some (.cells zero5 24 (0, 0)) := by
  have h1 := set5_turn h0 (Nat.le_refl _) ht (.int .i64 0) (.int .i64 0) (.int .i64 0) (.int .i64 0) (.slice none 0 0)
  have h2 := set5_at hres (.int .i64 0) (.int .i64 0) (.int .i64 0) (.int .i64 0) (.slice none 0 0)
  unfold set5 at h1 h2
  exact ⟨_, rfl, h1, h2⟩
theorem res_turn {W W' : World} {m : Md} (hold : b < w.heap.size) (hres : W.heap[w.heap.size]? = some (.cells zero5 24 (0, 0))) (ht : Turn E lv en b W nv nm m W') : W'.heap[w.heap.size]? = some (.cells zero5 24 (0, 0)) := by
  rw [ht.2.block _ (Array.getElem?_eq_some_iff.1 hres).1 (by simp; omega)]; exact hres

set_option maxHeartbeats 2000000 in
set_option maxRecDepth 100000 in
/-- term, at the end of the tokens -/
theorem term_end (want : Int) {k : Nat} (hk : E.l.length ≤ k) (h : Rr E lv en b w nv nm (.ok k)) :
    Calls Tryd.prog 31 #[.pointer (some ⟨b, 0, none⟩), .int .i64 want] w (TermPost E lv en b w nv nm (.bad k)) := by
  have H0 := Lib.hid h
  have HR := Lib.hid (h.kept (below_alloc w (.cells #[.int .i64 0, .int .i64 0, .int .i64 0, .int .i64 0, .slice none 0 0] 24)))
  have HG0 := Lib.hid (grown_below (r := some b) (below_alloc w (.cells #[.int .i64 0, .int .i64 0, .int .i64 0, .int .i64 0, .slice none 0 0] 24)))
  have HRES : Hid ((w.alloc (.cells #[.int .i64 0, .int .i64 0, .int .i64 0, .int .i64 0, .slice none 0 0] 24)).heap[w.heap.size]? = some (.cells zero5 24 (0, 0))) := Lib.hid (new_heap _ _ _)
  have hold := h.lt
  obtain ⟨a, o, rfl⟩ : ∃ a c, lv = .slice a E.l.length c := by
    rcases h.has.2 with ⟨rfl, h0⟩ | ⟨bt, o, c, rfl, hn, hbt, hcells⟩
    · exact ⟨none, 0, by rw [h0]⟩
    · exact ⟨_, _, rfl⟩
  have hd : decide (E.l.length ≤ k) = true := by simp; omega
  have hd2 : decide ((E.l.length : Int) ≤ (k : Int)) = true := by simp; omega
  obtain ⟨c0, c1, c2, c3, c4, c5, c6, c7⟩ := HR.out.at
  clear h
  go_enter Tryd.func31, Tryd.ntmps31
  go_wp2_with fail
  generalize w.alloc (.cells #[.int .i64 0, .int .i64 0, .int .i64 0, .int .i64 0, .slice none 0 0] 24) = W0 at *
  go_quiet (fail)
  obtain ⟨d0, d1, d2, d3, d4, d5, d6, d7⟩ := (HR.out.drewN nq).at
  go_wp2_with fail
  refine (fail_ok k (HR.out.drewN nq)).mono ?_
  rintro e w1 ⟨rfl, ht1⟩
  have HT1 : Hid (Turn E _ en b w nv nm (.bad k) w1) := Lib.hid ⟨ht1.1, grown_trans (grown_drewN HG0.out nq) ht1.2⟩
  have HH1 := Lib.hid (res_turn (W := W0.drewN nq) hold (by simpa using HRES.out) ht1)
  clear ht1 c0 c1 c2 c3 c4 c5 c6 c7 d0 d1 d2 d3 d4 d5 d6 d7
  obtain ⟨r0, r1, r2, r3, r4, g0, g1, g2, g3, g4⟩ := cells5 HH1.out
  go_wp2
  obtain ⟨W', hW', htW, hrW⟩ := zero_end H0.out HT1.out HH1.out
  rw [hW']
  obtain ⟨x0, x1, x2, x3, x4, _⟩ := cells5 hrW
  exact bodyPost_ret (v := termV 0 0 0 0 (.slice none 0 0)) (by simp [results, Tryd.results31, go_sem, x0, x1, x2, x3, x4, termV]) rfl (TermPost.of_bad htW)
set_option maxHeartbeats 2000000 in
set_option maxRecDepth 100000 in
/-- term, at a name -/
theorem term_name (want : Int) {k : Nat} (hk : kindAt E.l k = 3) (hnl : nm.length ≤ 4398046511104) (h : Rr E lv en b w nv nm (.ok k)) :
    Calls Tryd.prog 31 #[.pointer (some ⟨b, 0, none⟩), .int .i64 want] w (TermPost E lv en b w nv nm (nameM E nm k)) := by
  have hlt := kindAt_lt (l := E.l) (k := k) (by omega)
  have H0 := Lib.hid h
  have HR := Lib.hid (h.kept (below_alloc w (.cells #[.int .i64 0, .int .i64 0, .int .i64 0, .int .i64 0, .slice none 0 0] 24)))
  have HG0 := Lib.hid (grown_below (r := some b) (below_alloc w (.cells #[.int .i64 0, .int .i64 0, .int .i64 0, .int .i64 0, .slice none 0 0] 24)))
  have HRES : Hid ((w.alloc (.cells #[.int .i64 0, .int .i64 0, .int .i64 0, .int .i64 0, .slice none 0 0] 24)).heap[w.heap.size]? = some (.cells zero5 24 (0, 0))) := Lib.hid (new_heap _ _ _)
  have hold := h.lt
  have HW1 : Hid (w.heap.size < (w.alloc (.cells #[.int .i64 0, .int .i64 0, .int .i64 0, .int .i64 0, .slice none 0 0] 24)).heap.size) := Lib.hid (by simp)
  rcases HR.out.has.2 with ⟨rfl, h0⟩ | ⟨bt, o, c, rfl, hn, hbt, hcells⟩
  · omega
  unfold maxLen at hn
  have hat := toksCells_at E.l k hlt
  have t0 := (hcells (k * 3) (by omega)).trans hat.1
  have hkk : kindAt E.l k = E.l[k].kind := kindAt_eq hlt
  generalize E.l[k].kind = kk at t0 hkk
  have e3 : ((kk : Int) == 3) = true := by simp; omega
  have HK := Lib.hid hk
  clear hk
  have hd : decide (E.l.length ≤ k) = false := by simp; omega
  have hd2 : decide ((E.l.length : Int) ≤ (k : Int)) = false := by simp; omega
  obtain ⟨c0, c1, c2, c3, c4, c5, c6, c7⟩ := HR.out.at
  have hl := h.len
  clear h hat hcells hkk
  go_enter Tryd.func31, Tryd.ntmps31
  go_wp2_with fail
  generalize w.alloc (.cells #[.int .i64 0, .int .i64 0, .int .i64 0, .int .i64 0, .slice none 0 0] 24) = W0 at *
  go_quiet (fail)
  revert nq
  intro n1
  go_wp2_with fail
  go_quiet (fail)
  have HRq := Lib.hid (HR.out.drewN (n1 + nq))
  have HGq := Lib.hid (grown_drewN HG0.out (n1 + nq))
  have HSq : Hid ((W0.drewN (n1 + nq)).heap[w.heap.size]? = some (.cells zero5 24 (0, 0))) := Lib.hid (by simpa using HRES.out)
  clear c0 c1 c2 c3 c4 c5 c6 c7 t0
  go_wp2_with fail
  refine (rname_any HK.out HRq.out (by omega)).mono ?_
  intro e w1 hp1
  unfold NamePost at hp1
  cases hq : lookM nm (textAt E.l k) with
  | none =>
    rw [hq] at hp1
    obtain ⟨rfl, ht1⟩ := hp1
    have HTZ : Hid (Turn E _ en b w nv nm (.bad k) w1) := Lib.hid ⟨ht1.1, grown_trans HGq.out ht1.2⟩
    have HHZ := Lib.hid (res_turn hold HSq.out ht1)
    have HNM : Hid (nameM E nm k = .bad k) := Lib.hid (by unfold nameM; rw [hq])
    clear ht1 hq
    unfold termV
    obtain ⟨r0, r1, r2, r3, r4, g0, g1, g2, g3, g4⟩ := cells5 HHZ.out
    go_wp2
    obtain ⟨W', hW', htW, hrW⟩ := zero_end H0.out HTZ.out HHZ.out
    rw [hW']
    obtain ⟨x0, x1, x2, x3, x4, _⟩ := cells5 hrW
    exact bodyPost_ret (v := termV 0 0 0 0 (.slice none 0 0)) (by simp [results, Tryd.results31, go_sem, x0, x1, x2, x3, x4, termV]) rfl (by rw [HNM.out]; exact TermPost.of_bad htW)
  | some x =>
    rw [hq] at hp1
    obtain ⟨rfl, ht1⟩ := hp1
    have HTZ : Hid (Turn E _ en b w nv nm (.ok (k + 1)) w1) := Lib.hid ⟨ht1.1, grown_trans HGq.out ht1.2⟩
    have HHZ := Lib.hid (res_turn hold HSq.out ht1)
    have HX : Hid (x < nm.length) := Lib.hid (by
      unfold lookM at hq
      split at hq
      · rename_i hm
        simp only [Option.some.injEq] at hq
        rw [← hq]
        have := List.idxOf_lt_length_of_mem (List.mem_reverse.2 hm)
        simpa using this
      · cases hq)
    have HNM : Hid (nameM E nm k = .ok (.node 2 x 0 0 []) (k + 1)) := Lib.hid (by unfold nameM; rw [hq])
    clear ht1 hq
    unfold termV
    obtain ⟨r0, r1, r2, r3, r4, g0, g1, g2, g3, g4⟩ := cells5 HHZ.out
    go_wp2
    have htn := set5_turn H0.out (Nat.le_refl _) HTZ.out (.int .i64 2) (.int .i64 x) (.int .i64 0) (.int .i64 0) (.slice none 0 0)
    have hset := set5_at HHZ.out (.int .i64 2) (.int .i64 x) (.int .i64 0) (.int .i64 0) (.slice none 0 0)
    unfold set5 at hset htn
    obtain ⟨x0, x1, x2, x3, x4, _⟩ := cells5 hset
    refine bodyPost_ret (v := termV 2 x 0 0 (.slice none 0 0)) (by simp [results, Tryd.results31, go_sem, x0, x1, x2, x3, x4, termV]) rfl ?_
    rw [HNM.out]
    refine ⟨.node 2 x 0 0 [], none, 0, 0, rfl, htn, fun t' k' he => ?_⟩
    cases he
    have hx := HX.out
    exact ⟨rfl, .nil _ _, ⟨by simp only [TT.kd]; omega, by simp only [TT.kd]; omega⟩, ⟨by simp only [TT.ni]; omega, by simp only [TT.ni]; omega⟩, ⟨by simp only [TT.nj]; omega, by simp only [TT.nj]; omega⟩, ⟨by simp only [TT.nn]; omega, by simp only [TT.nn]; omega⟩⟩

set_option maxHeartbeats 2000000 in
set_option maxRecDepth 100000 in
/-- term, at a bracket or number that opens no list -/
theorem term_shut (want : Int) {k : Nat} (hlt : k < E.l.length) (hk3 : kindAt E.l k ≠ 3) (hk1 : kindAt E.l k ≠ 1) (h : Rr E lv en b w nv nm (.ok k)) :
    Calls Tryd.prog 31 #[.pointer (some ⟨b, 0, none⟩), .int .i64 want] w (TermPost E lv en b w nv nm (.bad k)) := by
  have H0 := Lib.hid h
  have HR := Lib.hid (h.kept (below_alloc w (.cells #[.int .i64 0, .int .i64 0, .int .i64 0, .int .i64 0, .slice none 0 0] 24)))
  have HG0 := Lib.hid (grown_below (r := some b) (below_alloc w (.cells #[.int .i64 0, .int .i64 0, .int .i64 0, .int .i64 0, .slice none 0 0] 24)))
  have HRES : Hid ((w.alloc (.cells #[.int .i64 0, .int .i64 0, .int .i64 0, .int .i64 0, .slice none 0 0] 24)).heap[w.heap.size]? = some (.cells zero5 24 (0, 0))) := Lib.hid (new_heap _ _ _)
  have hold := h.lt
  have HW1 : Hid (w.heap.size < (w.alloc (.cells #[.int .i64 0, .int .i64 0, .int .i64 0, .int .i64 0, .slice none 0 0] 24)).heap.size) := Lib.hid (by simp)
  rcases HR.out.has.2 with ⟨rfl, h0⟩ | ⟨bt, o, c, rfl, hn, hbt, hcells⟩
  · omega
  unfold maxLen at hn
  have hat := toksCells_at E.l k hlt
  have t0 := (hcells (k * 3) (by omega)).trans hat.1
  have hkk : kindAt E.l k = E.l[k].kind := kindAt_eq hlt
  generalize E.l[k].kind = kk at t0 hkk
  have e3 : ((kk : Int) == 3) = false := by simp; omega
  have HK := Lib.hid hk1
  clear hk1 hk3
  have hd : decide (E.l.length ≤ k) = false := by simp; omega
  have hd2 : decide ((E.l.length : Int) ≤ (k : Int)) = false := by simp; omega
  obtain ⟨c0, c1, c2, c3, c4, c5, c6, c7⟩ := HR.out.at
  have hl := h.len
  clear h hat hcells hkk
  go_enter Tryd.func31, Tryd.ntmps31
  go_wp2_with fail
  generalize w.alloc (.cells #[.int .i64 0, .int .i64 0, .int .i64 0, .int .i64 0, .slice none 0 0] 24) = W0 at *
  go_quiet (fail)
  revert nq
  intro n1
  go_wp2_with fail
  go_quiet (fail)
  have HRq := Lib.hid (HR.out.drewN (n1 + nq))
  have HGq := Lib.hid (grown_drewN HG0.out (n1 + nq))
  have HSq : Hid ((W0.drewN (n1 + nq)).heap[w.heap.size]? = some (.cells zero5 24 (0, 0))) := Lib.hid (by simpa using HRES.out)
  clear c0 c1 c2 c3 c4 c5 c6 c7 t0
  go_wp2_with fail
  refine (next_miss 1 (by decide) HK.out HRq.out).mono ?_
  rintro e w1 ⟨rfl, ht1⟩
  have HT1 := Lib.hid ht1
  have HH1 := Lib.hid (res_turn hold HSq.out ht1)
  obtain ⟨kk', x', y0, y1, y2, c0, c1, c2, c3, c6, c7⟩ := ht1.1.at'
  clear ht1 y0 y1 y2
  go_wp2_with fail
  refine (next_bad 3 HT1.out.1).mono ?_
  rintro e w2 ⟨rfl, ht2⟩
  have HTZ : Hid (Turn E _ en b w nv nm (.bad k) w2) := Lib.hid ⟨ht2.1, grown_trans HGq.out (grown_trans HT1.out.2 ht2.2)⟩
  have HHZ := Lib.hid (res_turn hold HH1.out ht2)
  obtain ⟨kk', x', y0, y1, y2, d0, d1, d2, d3, d6, d7⟩ := ht2.1.at'
  simp only [Md.isBad] at d6
  clear ht2 y0 y1 y2 c0 c1 c2 c3 c6 c7
  go_wp2_with fail
  refine (form_any [] _).mono ?_
  rintro e w3 ⟨rfl, rfl⟩
  obtain ⟨r0, r1, r2, r3, r4, g0, g1, g2, g3, g4⟩ := cells5 HHZ.out
  go_wp2
  obtain ⟨W', hW', htW, hrW⟩ := zero_end H0.out HTZ.out HHZ.out
  rw [hW']
  obtain ⟨x0, x1, x2, x3, x4, _⟩ := cells5 hrW
  exact bodyPost_ret (v := termV 0 0 0 0 (.slice none 0 0)) (by simp [results, Tryd.results31, go_sem, x0, x1, x2, x3, x4, termV]) rfl (TermPost.of_bad htW)

set_option maxHeartbeats 2000000 in
set_option maxRecDepth 100000 in
/-- term, where no word stands behind the bracket -/
theorem term_word (want : Int) {k : Nat} (hk : kindAt E.l k = 1) (hk3 : kindAt E.l (k + 1) ≠ 3) (h : Rr E lv en b w nv nm (.ok k)) :
    Calls Tryd.prog 31 #[.pointer (some ⟨b, 0, none⟩), .int .i64 want] w (TermPost E lv en b w nv nm (.bad (k + 1))) := by
  have hlt := kindAt_lt (l := E.l) (k := k) (by omega)
  have H0 := Lib.hid h
  have HR := Lib.hid (h.kept (below_alloc w (.cells #[.int .i64 0, .int .i64 0, .int .i64 0, .int .i64 0, .slice none 0 0] 24)))
  have HG0 := Lib.hid (grown_below (r := some b) (below_alloc w (.cells #[.int .i64 0, .int .i64 0, .int .i64 0, .int .i64 0, .slice none 0 0] 24)))
  have HRES : Hid ((w.alloc (.cells #[.int .i64 0, .int .i64 0, .int .i64 0, .int .i64 0, .slice none 0 0] 24)).heap[w.heap.size]? = some (.cells zero5 24 (0, 0))) := Lib.hid (new_heap _ _ _)
  have hold := h.lt
  have HW1 : Hid (w.heap.size < (w.alloc (.cells #[.int .i64 0, .int .i64 0, .int .i64 0, .int .i64 0, .slice none 0 0] 24)).heap.size) := Lib.hid (by simp)
  rcases HR.out.has.2 with ⟨rfl, h0⟩ | ⟨bt, o, c, rfl, hn, hbt, hcells⟩
  · omega
  unfold maxLen at hn
  have hat := toksCells_at E.l k hlt
  have t0 := (hcells (k * 3) (by omega)).trans hat.1
  have hkk : kindAt E.l k = E.l[k].kind := kindAt_eq hlt
  generalize E.l[k].kind = kk at t0 hkk
  have e3 : ((kk : Int) == 3) = false := by simp; omega
  have HK := Lib.hid hk
  have HK3 := Lib.hid hk3
  clear hk hk3
  have hd : decide (E.l.length ≤ k) = false := by simp; omega
  have hd2 : decide ((E.l.length : Int) ≤ (k : Int)) = false := by simp; omega
  obtain ⟨c0, c1, c2, c3, c4, c5, c6, c7⟩ := HR.out.at
  have hl := h.len
  clear h hat hcells hkk
  go_enter Tryd.func31, Tryd.ntmps31
  go_wp2_with fail
  generalize w.alloc (.cells #[.int .i64 0, .int .i64 0, .int .i64 0, .int .i64 0, .slice none 0 0] 24) = W0 at *
  go_quiet (fail)
  revert nq
  intro n1
  go_wp2_with fail
  go_quiet (fail)
  have HRq := Lib.hid (HR.out.drewN (n1 + nq))
  have HGq := Lib.hid (grown_drewN HG0.out (n1 + nq))
  have HSq : Hid ((W0.drewN (n1 + nq)).heap[w.heap.size]? = some (.cells zero5 24 (0, 0))) := Lib.hid (by simpa using HRES.out)
  clear c0 c1 c2 c3 c4 c5 c6 c7 t0
  go_wp2_with fail
  refine (next_ok 1 (by decide) HK.out HRq.out).mono ?_
  rintro e w1 ⟨rfl, ht1⟩
  have HT1 := Lib.hid ht1
  have HH1 := Lib.hid (res_turn hold HSq.out ht1)
  obtain ⟨c0, c1, c2, c3, c4, c5, c6, c7⟩ := ht1.1.at
  simp only [Int.natCast_add, Int.natCast_one] at c1
  clear ht1
  go_wp2_with fail
  refine (next_miss 3 (by decide) HK3.out HT1.out.1).mono ?_
  rintro e w2 ⟨rfl, ht2⟩
  have HTZ : Hid (Turn E _ en b w nv nm (.bad (k + 1)) w2) := Lib.hid ⟨ht2.1, grown_trans HGq.out (grown_trans HT1.out.2 ht2.2)⟩
  have HHZ := Lib.hid (res_turn hold HH1.out ht2)
  obtain ⟨kk', x', y0, y1, y2, d0, d1, d2, d3, d6, d7⟩ := ht2.1.at'
  simp only [Md.isBad] at d6
  clear ht2 y0 y1 y2 c0 c1 c2 c3 c4 c5 c6 c7
  go_wp2_with fail
  refine (form_any [] _).mono ?_
  rintro e w3 ⟨rfl, rfl⟩
  obtain ⟨r0, r1, r2, r3, r4, g0, g1, g2, g3, g4⟩ := cells5 HHZ.out
  go_wp2
  obtain ⟨W', hW', htW, hrW⟩ := zero_end H0.out HTZ.out HHZ.out
  rw [hW']
  obtain ⟨x0, x1, x2, x3, x4, _⟩ := cells5 hrW
  exact bodyPost_ret (v := termV 0 0 0 0 (.slice none 0 0)) (by simp [results, Tryd.results31, go_sem, x0, x1, x2, x3, x4, termV]) rfl (TermPost.of_bad htW)

set_option maxHeartbeats 2000000 in
set_option maxRecDepth 100000 in
/-- term, at a list of another sort -/
theorem term_wrong (want : Nat) (_hw : want ≤ 2) {k : Nat} (hk : kindAt E.l k = 1) (hk3 : kindAt E.l (k + 1) = 3) (hwr : wrongM want (kindW (textAt E.l (k + 1))) = true) (h : Rr E lv en b w nv nm (.ok k)) :
    Calls Tryd.prog 31 #[.pointer (some ⟨b, 0, none⟩), .int .i64 want] w (TermPost E lv en b w nv nm (.bad (k + 1))) := by
  have hways : (((kindW (textAt E.l (k + 1)) : Nat) : Int) == 0) = true ∨ ((((kindW (textAt E.l (k + 1)) : Nat) : Int) == 0) = false ∧ ((want : Int) == 1) = true ∧ decide ((12 : Int) < ((kindW (textAt E.l (k + 1)) : Nat) : Int)) = true) ∨
      ((((kindW (textAt E.l (k + 1)) : Nat) : Int) == 0) = false ∧ ((want : Int) == 1) = false ∧ ((want : Int) == 2) = true ∧ decide ((2 : Int) < ((kindW (textAt E.l (k + 1)) : Nat) : Int)) = true ∧ decide (((kindW (textAt E.l (k + 1)) : Nat) : Int) ≤ 12) = true) := by
    unfold wrongM at hwr
    simp only [Bool.or_eq_true, Bool.and_eq_true, beq_iff_eq, decide_eq_true_eq] at hwr
    by_cases h0 : kindW (textAt E.l (k + 1)) = 0
    · exact .inl (by simp [h0])
    · have f0 : (((kindW (textAt E.l (k + 1)) : Nat) : Int) == 0) = false := by simp; omega
      rcases hwr with (h1 | h1) | h1
      · exact absurd h1 h0
      · exact .inr (.inl ⟨f0, by simp; omega, by simp; omega⟩)
      · exact .inr (.inr ⟨f0, by simp; omega, by simp; omega, by simp; omega, by simp; omega⟩)
  clear hwr
  have hlt := kindAt_lt (l := E.l) (k := k) (by omega)
  have H0 := Lib.hid h
  have HR := Lib.hid (h.kept (below_alloc w (.cells #[.int .i64 0, .int .i64 0, .int .i64 0, .int .i64 0, .slice none 0 0] 24)))
  have HG0 := Lib.hid (grown_below (r := some b) (below_alloc w (.cells #[.int .i64 0, .int .i64 0, .int .i64 0, .int .i64 0, .slice none 0 0] 24)))
  have HRES : Hid ((w.alloc (.cells #[.int .i64 0, .int .i64 0, .int .i64 0, .int .i64 0, .slice none 0 0] 24)).heap[w.heap.size]? = some (.cells zero5 24 (0, 0))) := Lib.hid (new_heap _ _ _)
  have hold := h.lt
  have HW1 : Hid (w.heap.size < (w.alloc (.cells #[.int .i64 0, .int .i64 0, .int .i64 0, .int .i64 0, .slice none 0 0] 24)).heap.size) := Lib.hid (by simp)
  rcases HR.out.has.2 with ⟨rfl, h0⟩ | ⟨bt, o, c, rfl, hn, hbt, hcells⟩
  · omega
  unfold maxLen at hn
  have hat := toksCells_at E.l k hlt
  have t0 := (hcells (k * 3) (by omega)).trans hat.1
  have hkk : kindAt E.l k = E.l[k].kind := kindAt_eq hlt
  generalize E.l[k].kind = kk at t0 hkk
  have e3 : ((kk : Int) == 3) = false := by simp; omega
  have HK := Lib.hid hk
  have HK3 := Lib.hid hk3
  clear hk hk3
  have hd : decide (E.l.length ≤ k) = false := by simp; omega
  have hd2 : decide ((E.l.length : Int) ≤ (k : Int)) = false := by simp; omega
  obtain ⟨c0, c1, c2, c3, c4, c5, c6, c7⟩ := HR.out.at
  have hl := h.len
  clear h hat hcells hkk
  go_enter Tryd.func31, Tryd.ntmps31
  go_wp2_with fail
  generalize w.alloc (.cells #[.int .i64 0, .int .i64 0, .int .i64 0, .int .i64 0, .slice none 0 0] 24) = W0 at *
  go_quiet (fail)
  revert nq
  intro n1
  go_wp2_with fail
  go_quiet (fail)
  have HRq := Lib.hid (HR.out.drewN (n1 + nq))
  have HGq := Lib.hid (grown_drewN HG0.out (n1 + nq))
  have HSq : Hid ((W0.drewN (n1 + nq)).heap[w.heap.size]? = some (.cells zero5 24 (0, 0))) := Lib.hid (by simpa using HRES.out)
  clear c0 c1 c2 c3 c4 c5 c6 c7 t0
  go_wp2_with fail
  refine (next_ok 1 (by decide) HK.out HRq.out).mono ?_
  rintro e w1 ⟨rfl, ht1⟩
  have HT1 := Lib.hid ht1
  have HH1 := Lib.hid (res_turn hold HSq.out ht1)
  obtain ⟨c0, c1, c2, c3, c4, c5, c6, c7⟩ := ht1.1.at
  simp only [Int.natCast_add, Int.natCast_one] at c1
  clear ht1
  go_wp2_with fail
  refine (next_ok 3 (by decide) HK3.out HT1.out.1).mono ?_
  rintro e w2 ⟨rfl, ht2⟩
  have HT2 := Lib.hid ht2
  have HH2 := Lib.hid (res_turn hold HH1.out ht2)
  obtain ⟨d0, d1, d2, d3, d4, d5, d6, d7⟩ := ht2.1.at
  clear ht2 c0 c1 c2 c3 c4 c5 c6 c7
  go_wp2_with fail
  refine (form_any (textAt E.l (k + 1)) _).mono ?_
  rintro e w3 ⟨rfl, rfl⟩
  generalize kindW (textAt E.l (k + 1)) = kd at *
  rcases hways with f0 | ⟨f0, f1, f2⟩ | ⟨f0, f1, f2, f3, f4⟩
  all_goals
    go_wp2_with fail
    refine (fail_ok (k + 1) HT2.out.1).mono ?_
    rintro e w4 ⟨rfl, ht4⟩
    have HTZ : Hid (Turn E _ en b w nv nm (.bad (k + 1)) w4) := Lib.hid ⟨ht4.1, grown_trans HGq.out (grown_trans HT1.out.2 (grown_trans HT2.out.2 ht4.2))⟩
    have HHZ := Lib.hid (res_turn hold HH2.out ht4)
    clear ht4 d0 d1 d2 d3 d4 d5 d6 d7
    obtain ⟨r0, r1, r2, r3, r4, g0, g1, g2, g3, g4⟩ := cells5 HHZ.out
    go_wp2
    obtain ⟨W', hW', htW, hrW⟩ := zero_end H0.out HTZ.out HHZ.out
    rw [hW']
    obtain ⟨x0, x1, x2, x3, x4, _⟩ := cells5 hrW
    exact bodyPost_ret (v := termV 0 0 0 0 (.slice none 0 0)) (by simp [results, Tryd.results31, go_sem, x0, x1, x2, x3, x4, termV]) rfl (TermPost.of_bad htW)

set_option maxHeartbeats 2000000 in
set_option maxRecDepth 100000 in
/-- term, at a list -/
theorem term_list (want : Nat) (_hw : want ≤ 2) {fuel k : Nat} (ih : TermC E lv en b fuel) (hf : E.l.length < k + 2 + fuel) (hnl : nm.length + E.l.length ≤ 2199023255552 + (k + 2)) (hk : kindAt E.l k = 1) (hk3 : kindAt E.l (k + 1) = 3) (hwr : wrongM want (kindW (textAt E.l (k + 1))) = false) (h : Rr E lv en b w nv nm (.ok k)) :
    Calls Tryd.prog 31 #[.pointer (some ⟨b, 0, none⟩), .int .i64 want] w (TermPost E lv en b w nv nm (listM E (termM E fuel) nm (kindW (textAt E.l (k + 1))) (shapeK (kindW (textAt E.l (k + 1)))) (k + 2))) := by
  have hways : (((kindW (textAt E.l (k + 1)) : Nat) : Int) == 0) = false ∧ (((want : Int) == 1) = false ∨ ((want : Int) == 1) = true ∧ decide ((12 : Int) < ((kindW (textAt E.l (k + 1)) : Nat) : Int)) = false) ∧
      (((want : Int) == 2) = false ∨ ((want : Int) == 2) = true ∧ (decide ((2 : Int) < ((kindW (textAt E.l (k + 1)) : Nat) : Int)) = false ∨ decide ((2 : Int) < ((kindW (textAt E.l (k + 1)) : Nat) : Int)) = true ∧ decide (((kindW (textAt E.l (k + 1)) : Nat) : Int) ≤ 12) = false)) := by
    unfold wrongM at hwr
    simp only [Bool.or_eq_false_iff, Bool.and_eq_false_iff, beq_eq_false_iff_ne, decide_eq_false_iff_not] at hwr
    obtain ⟨⟨h0, h1⟩, h2⟩ := hwr
    refine ⟨by simp; omega, ?_, ?_⟩
    · by_cases hw1 : want = 1
      · exact .inr ⟨by simp [hw1], by simp; omega⟩
      · exact .inl (by simp; omega)
    · by_cases hw2 : want = 2
      · refine .inr ⟨by simp [hw2], ?_⟩
        by_cases h3 : 2 < kindW (textAt E.l (k + 1))
        · exact .inr ⟨by simp; omega, by simp; omega⟩
        · exact .inl (by simp; omega)
      · exact .inl (by simp; omega)
  have hsk := shapeK_ok (kindW (textAt E.l (k + 1))) (kindW_le _)
  have HLIST : Hid (∀ w', Rr E lv en b w' nv nm (.ok (k + 2)) → Calls Tryd.prog 49 #[.pointer (some ⟨b, 0, none⟩), .int .i64 (kindW (textAt E.l (k + 1)) : Nat), .string ⟨(shapeK (kindW (textAt E.l (k + 1)))).toArray⟩] w' (TermPost E lv en b w' nv nm (listM E (termM E fuel) nm (kindW (textAt E.l (k + 1))) (shapeK (kindW (textAt E.l (k + 1)))) (k + 2)))) :=
    Lib.hid (fun w' h' => list_any (kindW_le _) ih hf hnl h' hsk.1 hsk.2)
  clear hwr ih hsk
  generalize listM E (termM E fuel) nm (kindW (textAt E.l (k + 1))) (shapeK (kindW (textAt E.l (k + 1)))) (k + 2) = r at HLIST ⊢
  have hlt := kindAt_lt (l := E.l) (k := k) (by omega)
  have H0 := Lib.hid h
  have HR := Lib.hid (h.kept (below_alloc w (.cells #[.int .i64 0, .int .i64 0, .int .i64 0, .int .i64 0, .slice none 0 0] 24)))
  have HG0 := Lib.hid (grown_below (r := some b) (below_alloc w (.cells #[.int .i64 0, .int .i64 0, .int .i64 0, .int .i64 0, .slice none 0 0] 24)))
  have HRES : Hid ((w.alloc (.cells #[.int .i64 0, .int .i64 0, .int .i64 0, .int .i64 0, .slice none 0 0] 24)).heap[w.heap.size]? = some (.cells zero5 24 (0, 0))) := Lib.hid (new_heap _ _ _)
  have hold := h.lt
  have HW1 : Hid (w.heap.size < (w.alloc (.cells #[.int .i64 0, .int .i64 0, .int .i64 0, .int .i64 0, .slice none 0 0] 24)).heap.size) := Lib.hid (by simp)
  rcases HR.out.has.2 with ⟨rfl, h0⟩ | ⟨bt, o, c, rfl, hn, hbt, hcells⟩
  · omega
  unfold maxLen at hn
  have hat := toksCells_at E.l k hlt
  have t0 := (hcells (k * 3) (by omega)).trans hat.1
  have hkk : kindAt E.l k = E.l[k].kind := kindAt_eq hlt
  generalize E.l[k].kind = kk at t0 hkk
  have e3 : ((kk : Int) == 3) = false := by simp; omega
  have HK := Lib.hid hk
  have HK3 := Lib.hid hk3
  clear hk hk3
  have hd : decide (E.l.length ≤ k) = false := by simp; omega
  have hd2 : decide ((E.l.length : Int) ≤ (k : Int)) = false := by simp; omega
  obtain ⟨c0, c1, c2, c3, c4, c5, c6, c7⟩ := HR.out.at
  have hl := h.len
  clear h hat hcells hkk
  go_enter Tryd.func31, Tryd.ntmps31
  go_wp2_with fail
  generalize w.alloc (.cells #[.int .i64 0, .int .i64 0, .int .i64 0, .int .i64 0, .slice none 0 0] 24) = W0 at *
  go_quiet (fail)
  revert nq
  intro n1
  go_wp2_with fail
  go_quiet (fail)
  have HRq := Lib.hid (HR.out.drewN (n1 + nq))
  have HGq := Lib.hid (grown_drewN HG0.out (n1 + nq))
  have HSq : Hid ((W0.drewN (n1 + nq)).heap[w.heap.size]? = some (.cells zero5 24 (0, 0))) := Lib.hid (by simpa using HRES.out)
  clear c0 c1 c2 c3 c4 c5 c6 c7 t0
  go_wp2_with fail
  refine (next_ok 1 (by decide) HK.out HRq.out).mono ?_
  rintro e w1 ⟨rfl, ht1⟩
  have HT1 := Lib.hid ht1
  have HH1 := Lib.hid (res_turn hold HSq.out ht1)
  obtain ⟨c0, c1, c2, c3, c4, c5, c6, c7⟩ := ht1.1.at
  simp only [Int.natCast_add, Int.natCast_one] at c1
  clear ht1
  go_wp2_with fail
  refine (next_ok 3 (by decide) HK3.out HT1.out.1).mono ?_
  rintro e w2 ⟨rfl, ht2⟩
  have HT2 := Lib.hid ht2
  have HH2 := Lib.hid (res_turn hold HH1.out ht2)
  obtain ⟨d0, d1, d2, d3, d4, d5, d6, d7⟩ := ht2.1.at
  clear ht2 c0 c1 c2 c3 c4 c5 c6 c7
  go_wp2_with fail
  refine (form_any (textAt E.l (k + 1)) _).mono ?_
  rintro e w3 ⟨rfl, rfl⟩
  generalize kindW (textAt E.l (k + 1)) = kd at *
  obtain ⟨f0, f1, f2⟩ := hways
  rcases f1 with f1 | ⟨f1, f1'⟩
  all_goals
    rcases f2 with f2 | ⟨f2, f2' | ⟨f2', f2''⟩⟩
    all_goals
      go_wp2_with fail
      refine (HLIST.out _ HT2.out.1).mono ?_
      rintro e w4 ⟨t, a6, l6, c6, rfl, ht4, hv4⟩
      have HTZ : Hid (Turn E _ en b w nv nm r.md w4) := Lib.hid ⟨ht4.1, grown_trans HGq.out (grown_trans HT1.out.2 (grown_trans HT2.out.2 ht4.2))⟩
      have HHZ := Lib.hid (res_turn hold HH2.out ht4)
      have HSZ : Hid (w.heap.size < w3.heap.size) := Lib.hid (Array.getElem?_eq_some_iff.1 HH2.out).1
      have HV4 := Lib.hid hv4
      clear ht4 hv4 d0 d1 d2 d3 d4 d5 d6 d7
      obtain ⟨r0, r1, r2, r3, r4, g0, g1, g2, g3, g4⟩ := cells5 HHZ.out
      unfold termV
      go_wp2
      have htn := set5_turn H0.out (Nat.le_refl _) HTZ.out (.int .i64 t.kd) (.int .i64 t.ni) (.int .i64 t.nj) (.int .i64 t.nn) (.slice a6 l6 c6)
      have hset := set5_at HHZ.out (.int .i64 t.kd) (.int .i64 t.ni) (.int .i64 t.nj) (.int .i64 t.nn) (.slice a6 l6 c6)
      have hval : ∀ t' k', r = .ok t' k' → t' = t ∧ RepTS (set5 w4 w.heap.size (.int .i64 t.kd) (.int .i64 t.ni) (.int .i64 t.nj) (.int .i64 t.nn) (.slice a6 l6 c6)) (fun x => w.heap.size ≤ x) t.kids (.slice a6 l6 c6) ∧ t.in4 := fun t' k' he => by
        obtain ⟨h1, h2, h3⟩ := HV4.out t' k' he
        have hsz := HSZ.out
        exact ⟨h1, h2.kept (by rw [set5_size]; exact Nat.le_refl _) fun x hx _ => ⟨set5_other _ _ _ _ _ _ _ (by omega), by omega⟩, h3⟩
      unfold set5 at hset htn hval
      obtain ⟨x0, x1, x2, x3, x4, _⟩ := cells5 hset
      refine bodyPost_ret (v := termV t.kd t.ni t.nj t.nn (.slice a6 l6 c6)) (by simp [results, Tryd.results31, go_sem, x0, x1, x2, x3, x4, termV]) rfl ?_
      exact ⟨t, a6, l6, c6, rfl, htn, hval⟩
end

theorem termR_any {E : REnv} {lv : Value} {en : Int} {b : Nat} : ∀ fuel, TermC E lv en b fuel
  | 0 => fun nv nm k want w h hf _ _ => absurd hf (by have := h.le; omega)
  | fuel + 1 => fun nv nm k want w h hf hnl hw => by
    have ih := termR_any (E := E) (lv := lv) (en := en) (b := b) fuel
    have hle := h.le
    have hlen := h.len
    unfold termM
    by_cases hlt : k < E.l.length
    · by_cases h3 : kindAt E.l k = 3
      · rw [if_pos h3]; exact term_name want h3 (by omega) h
      rw [if_neg h3]
      by_cases h1 : kindAt E.l k = 1
      · rw [if_neg (by omega)]
        by_cases h4 : kindAt E.l (k + 1) = 3
        · rw [if_neg (by omega)]
          by_cases hwr : wrongM want (kindW (textAt E.l (k + 1))) = true
          · rw [if_pos hwr]; exact term_wrong want hw h1 h4 hwr h
          · rw [if_neg hwr]
            have hwr' : wrongM want (kindW (textAt E.l (k + 1))) = false := by simpa using hwr
            have hk0 : kindW (textAt E.l (k + 1)) ≠ 0 := fun he => by rw [he] at hwr'; simp [wrongM] at hwr'
            rw [← list_body E (termM E fuel) nm (kindW (textAt E.l (k + 1))) (k + 2) (by omega) (kindW_ne2 _) (kindW_le _)]
            exact term_list want hw ih (by omega) (by omega) h1 h4 hwr' h
        · rw [if_pos h4]; exact term_word want h1 h4 h
      · rw [if_pos h1]; exact term_shut want hlt h3 h1 h
    · have h0 := kindAt_ge (l := E.l) (k := k) (by omega)
      rw [if_neg (by omega), if_pos (by omega)]
      exact term_end want (by omega) h

end Go.Proofs.YtfklmcmoackepaaDoor
