/- The walk of transhiplaw02.LexBehind where neither text has a fault. -/
import Derived.Test.YtjfdagacohkboaaDoorLaw02g
namespace Go.Proofs.YtjfdagacohkboaaDoor
open Go.RowKit

theorem spans_pos (l : List UInt8) : ∀ (pos : Nat) (toks : List Tok), Spans l pos toks → ∀ (k : Nat) (h : k < toks.length), toks[k].pos + toks[k].text.length ≤ l.length
  | _, [], _, k, h => by simp at h
  | pos, t :: ts, hs, 0, _ => hs.2.2.1
  | pos, t :: ts, hs, k + 1, h => spans_pos l _ ts hs.2.2.2.2.2 k (by simpa using h)

set_option maxHeartbeats 2000000 in
set_option maxRecDepth 100000 in
theorem lexBehind_ok (a b : ByteArray) (w : World) (ht : Tab w) (ha : a.size ≤ 2000) (hb : b.size ≤ 2000) (la lb : List Tok) (hqa : lexL a.data.toList = (la, none)) (hqb : lexL b.data.toList = (lb, none)) :
    Calls Tryd.prog 11 #[.string a, .string b] w fun e w' => e = .returned (.bool true) ∧ Below w.heap.size w w' := by
  have HT := Lib.hid ht
  clear ht
  have ha2 : ¬ (2000 : Int) < (a.size : Int) := by omega
  have hb2' : ¬ (2000 : Int) < (b.size : Int) := by omega
  have hbl : b.data.toList.length = b.size := by simp
  have hal : a.data.toList.length = a.size := by simp
  have hna := lexL_length a.data.toList
  have hnb := lexL_length b.data.toList
  rw [hqa, hal] at hna
  rw [hqb, hbl] at hnb
  have hna2 : la.length ≤ 2000 := Nat.le_trans hna ha
  have hnb2 : lb.length ≤ 2000 := Nat.le_trans hnb hb
  have hposb : ∀ k (h : k < lb.length), lb[k].pos ≤ 2000 := fun k h => by
    have := spans_pos b.data.toList 0 lb (spans_lexL _ _ hqb) k h
    omega
  have HPB := Lib.hid hposb
  clear hna hnb hbl hposb
  have HLA : Hid (a.size ≤ 1099511627776) := Lib.hid (by omega)
  have HLB : Hid (b.size ≤ 1099511627776) := Lib.hid (by omega)
  have HLJ : Hid ((a ++ ByteArray.mk #[10] ++ b).size ≤ 1099511627776) := Lib.hid (by rw [joined_size]; omega)
  have HJ : Hid (lexL (a ++ ByteArray.mk #[10] ++ b).data.toList = (la ++ lb.map (shiftT (a.size + 1)), none)) := Lib.hid (by
    rw [joined_toList, lexL_line, thenX_ok hqa, hqb, hal]; rfl)
  clear hal
  have HQA := Lib.hid hqa
  have HQB := Lib.hid hqb
  clear hqa hqb
  obtain ⟨lm, hlm⟩ : ∃ lm, lm = la ++ lb.map (shiftT (a.size + 1)) := ⟨_, rfl⟩
  have hlml : lm.length = la.length + lb.length := by rw [hlm]; simp
  have hmn : ((lm.length : Int) != (la.length : Int) + (lb.length : Int)) = false := by rw [bne_eq_false_iff_eq]; omega
  have HLM := Lib.hid hlm
  have HLML := Lib.hid hlml
  have hml2 : lm.length ≤ 4000 := by omega
  clear hlm hlml
  go_enter Tryd.func11, Tryd.ntmps11
  go_wp2_with fail
  refine (lex_ok a w la HQA.out HLA.out HT.out).mono ?_
  rintro e w1 ⟨v1, rfl, hown1, hb1⟩
  have HT1 := Lib.hid (HT.out.below hb1)
  have hh1 := Has.of_owns hown1
  obtain ⟨a1, c1, rfl⟩ := hh1.slice
  clear hown1
  go_wp2_with fail
  refine (lex_ok _ w1 lm (by rw [HJ.out, HLM.out]) HLJ.out HT1.out).mono ?_
  rintro e w2 ⟨v2, rfl, hown2, hb2⟩
  have HT2 := Lib.hid (HT1.out.below hb2)
  have hh2 := Has.of_owns hown2
  obtain ⟨a2, c2, rfl⟩ := hh2.slice
  clear hown2
  go_wp2_with fail
  refine (lex_ok b w2 lb HQB.out HLB.out HT2.out).mono ?_
  rintro e w3 ⟨v3, rfl, hown3, hb3⟩
  have HT3 := Lib.hid (HT2.out.below hb3)
  have hh3 := Has.of_owns hown3
  obtain ⟨a3, c3, rfl⟩ := hh3.slice
  clear hown3
  have HH1 := Lib.hid ((hh1.below hb2).below hb3)
  have HH2 := Lib.hid (hh2.below hb3)
  have HH3 := Lib.hid hh3
  have b2 := hb1.trans (hb2.mono hb1.size)
  have b3 := b2.trans (hb3.mono b2.size)
  clear hh1 hh2 hh3 hb1 hb2 hb3 b2
  go_wp2_with fail
  go_loopw [14] (fun i wr => ∃ k : Nat, i = .int .i64 k ∧ k ≤ lm.length ∧ Below w3.heap.size w3 wr) (fun i _ => lm.length - (intOf i).toNat)
  case atStart => exact ⟨0, rfl, Nat.zero_le _, Below.refl _ _⟩
  case round =>
    obtain ⟨k, rfl, hk, hbel⟩ := hrel
    have HTn := Lib.hid (HT3.out.below hbel)
    by_cases hlt : k < lm.length
    · obtain ⟨bm, om, rfl, hbm, hcm⟩ := HH2.out.open (by omega)
      have hatm := toksCells_at lm k hlt
      have m0 : wr.cell? ⟨bm, om + k * 3, none⟩ = _ := (hbel.cell (p := ⟨bm, om + k * 3, none⟩) hbm).trans ((hcm (k * 3) (by omega)).trans hatm.1)
      have m1 : wr.cell? ⟨bm, om + k * 3 + 1, none⟩ = _ := (hbel.cell (p := ⟨bm, om + k * 3 + 1, none⟩) hbm).trans ((hcm (k * 3 + 1) (by omega)).trans hatm.2.1)
      have m2 : wr.cell? ⟨bm, om + k * 3 + 2, none⟩ = _ := (hbel.cell (p := ⟨bm, om + k * 3 + 2, none⟩) hbm).trans ((hcm (k * 3 + 2) (by omega)).trans hatm.2.2)
      clear hcm hatm
      by_cases hka : k < la.length
      · have hmk : lm[k] = la[k] := by
          have h0 := HLM.out
          have h1 : lm[k]? = la[k]? := by rw [h0, List.getElem?_append_left hka]
          rw [List.getElem?_eq_getElem hlt, List.getElem?_eq_getElem hka] at h1
          exact Option.some.inj h1
        obtain ⟨bl, ol, rfl, hbl, hcl⟩ := HH1.out.open (by omega)
        have hatl := toksCells_at la k hka
        have l0 : wr.cell? ⟨bl, ol + k * 3, none⟩ = _ := (hbel.cell (p := ⟨bl, ol + k * 3, none⟩) hbl).trans ((hcl (k * 3) (by omega)).trans hatl.1)
        have l1 : wr.cell? ⟨bl, ol + k * 3 + 1, none⟩ = _ := (hbel.cell (p := ⟨bl, ol + k * 3 + 1, none⟩) hbl).trans ((hcl (k * 3 + 1) (by omega)).trans hatl.2.1)
        have l2 : wr.cell? ⟨bl, ol + k * 3 + 2, none⟩ = _ := (hbel.cell (p := ⟨bl, ol + k * 3 + 2, none⟩) hbl).trans ((hcl (k * 3 + 2) (by omega)).trans hatl.2.2)
        rw [hmk] at m0 m1 m2
        generalize la[k] = t at *
        clear hcl hatl hmk
        go_wp2_with fail
        refine wp_region_quiet_lit (by kernel_rfl) (by kernel_rfl) ?_
        repeat (quiet_step (fail))
        refine wpQuiet_nil ?_
        intro _ hw'
        obtain ⟨nq, hw''⟩ := hw'
        subst hw''
        go_wp2
        go_roundw
        case rel => exact ⟨k + 1, by go_num, by omega, below_drewN hbel nq⟩
        case measure => simp [intOf]; omega
      · have hml := HLML.out
        obtain ⟨j, hj⟩ : ∃ j, k = la.length + j := ⟨k - la.length, by omega⟩
        have hjb : j < lb.length := by omega
        have hmk : lm[k] = shiftT (a.size + 1) lb[j] := by
          have h0 := HLM.out
          have h1 : lm[k]? = (lb.map (shiftT (a.size + 1)))[j]? := by
            rw [h0, List.getElem?_append_right (by omega)]
            congr 1
            omega
          rw [List.getElem?_eq_getElem hlt, List.getElem?_map, List.getElem?_eq_getElem hjb] at h1
          exact Option.some.inj h1
        obtain ⟨bn, on, rfl, hbn, hcn⟩ := HH3.out.open (by omega)
        have hatn := toksCells_at lb j hjb
        have n0 : wr.cell? ⟨bn, on + j * 3, none⟩ = _ := (hbel.cell (p := ⟨bn, on + j * 3, none⟩) hbn).trans ((hcn (j * 3) (by omega)).trans hatn.1)
        have n1 : wr.cell? ⟨bn, on + j * 3 + 1, none⟩ = _ := (hbel.cell (p := ⟨bn, on + j * 3 + 1, none⟩) hbn).trans ((hcn (j * 3 + 1) (by omega)).trans hatn.2.1)
        have n2 : wr.cell? ⟨bn, on + j * 3 + 2, none⟩ = _ := (hbel.cell (p := ⟨bn, on + j * 3 + 2, none⟩) hbn).trans ((hcn (j * 3 + 2) (by omega)).trans hatn.2.2)
        have hpb := HPB.out j hjb
        rw [hmk] at m0 m1 m2
        generalize lb[j] = t at *
        clear hcn hatn hmk hml
        have hji : (k : Int) - (la.length : Int) = (j : Int) := by omega
        have HJI := Lib.hid hj
        have hpe : (((t.pos + (a.size + 1) : Nat) : Int) != (t.pos : Int) + (a.size : Int) + 1) = false := by rw [bne_eq_false_iff_eq]; omega
        have hpe2 : ((t.pos : Int) + ((a.size : Int) + 1) != (t.pos : Int) + (a.size : Int) + 1) = false := by rw [bne_eq_false_iff_eq]; omega
        clear hj
        simp only [shiftT] at m0 m1 m2
        have hbmw : bm < wr.heap.size := Nat.lt_of_lt_of_le hbm hbel.size
        go_wp2_with fail
        generalize hW2 : wr.alloc (Obj.cells #[.int .i64 t.kind, .string ⟨t.text.toArray⟩, .int .i64 t.pos] 39) = W2
        have hbw2 : Below wr.heap.size wr W2 := by rw [← hW2]; exact (Below.refl _ _).alloc (Nat.le_refl _) _
        have q0 := (hbw2.cell (p := ⟨bm, om + k * 3, none⟩) hbmw).trans m0
        have q1 := (hbw2.cell (p := ⟨bm, om + k * 3 + 1, none⟩) hbmw).trans m1
        have q2 := (hbw2.cell (p := ⟨bm, om + k * 3 + 2, none⟩) hbmw).trans m2
        have x0 : W2.cell? ⟨wr.heap.size, 0, none⟩ = some (.int .i64 t.kind) := by rw [← hW2]; simp [go_sem]
        have x1 : W2.cell? ⟨wr.heap.size, 1, none⟩ = some (.string ⟨t.text.toArray⟩) := by rw [← hW2]; simp [go_sem]
        have x2 : W2.cell? ⟨wr.heap.size, 2, none⟩ = some (.int .i64 t.pos) := by rw [← hW2]; simp [go_sem]
        have hbel2 : Below w3.heap.size w3 W2 := hbel.trans (hbw2.mono hbel.size)
        clear hW2 m0 m1 m2 n0 n1 n2 hbw2
        have hwr1 : IntKind.i64.wrap ((t.pos : Int) + (a.size : Int)) = (t.pos : Int) + (a.size : Int) := IntWalk.i64_in _ (by omega)
        have hwr2 : IntKind.i64.wrap ((t.pos : Int) + (a.size : Int) + 1) = (t.pos : Int) + (a.size : Int) + 1 := IntWalk.i64_in _ (by omega)
        refine wp_region_quiet_lit (by kernel_rfl) (by kernel_rfl) ?_
        repeat (quiet_step (fail))
        refine wpQuiet_nil ?_
        intro _ hw'
        obtain ⟨nq, hw''⟩ := hw'
        subst hw''
        clear hwr1 hwr2
        go_wp2
        go_roundw
        case rel => exact ⟨k + 1, by go_num, by omega, below_drewN hbel2 nq⟩
        case measure => simp [intOf]; omega
    · go_wp2_with fail
      refine (wakes02 _ HTn.out).mono ?_
      rintro e w4 ⟨rfl, hb4⟩
      go_wp2
      go_ret
      have b4 := b3.trans (hbel.mono b3.size)
      exact ⟨rfl, b4.trans (hb4.mono b4.size)⟩

theorem lexBehind_walk (a b : ByteArray) (w : World) (ht : Tab w) :
    Calls Tryd.prog 11 #[.string a, .string b] w fun e w' => e = .returned (.bool true) ∧ Below w.heap.size w w' := by
  by_cases h2000 : 2000 < a.size
  · have h2 : (2000 : Int) < (a.size : Int) := by omega
    clear ht
    go_enter Tryd.func11, Tryd.ntmps11
    go_wp2
    go_ret
    exact ⟨rfl, Below.refl _ _⟩
  have ha2 : ¬ (2000 : Int) < (a.size : Int) := by omega
  by_cases h2001 : 2000 < b.size
  · have h2 : (2000 : Int) < (b.size : Int) := by omega
    clear ht
    go_enter Tryd.func11, Tryd.ntmps11
    go_wp2
    go_ret
    exact ⟨rfl, Below.refl _ _⟩
  cases hqa : lexL a.data.toList with
  | mk la fa =>
  cases fa with
  | some p => exact lexBehind_a a b w ht (by omega) (by omega) la p hqa
  | none =>
    cases hqb : lexL b.data.toList with
    | mk lb fb =>
    cases fb with
    | some p => exact lexBehind_b a b w ht (by omega) (by omega) la lb p hqa hqb
    | none => exact lexBehind_ok a b w ht (by omega) (by omega) la lb hqa hqb
end Go.Proofs.YtjfdagacohkboaaDoor
