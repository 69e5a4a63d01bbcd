/- The walk of transhiplaw02.LexSpans. -/
import Derived.Test.YtjfdagacohkboaaDoorLaw02d
namespace Go.Proofs.YtjfdagacohkboaaDoor
open Go.RowKit

/-- round k: the place, and what is still to come -/
def SpanSt (s : ByteArray) (toks : List Tok) (k A : Nat) : Prop := (k ≤ toks.length ∧ Spans s.data.toList A (toks.drop k)) ∨ k = toks.length + 1

theorem gap_nothing (s : ByteArray) (A T : Nat) (hA : A ≤ s.size) (hT : T = blankAt s.data.toList A) : nothingS false (s.extract A T).data.toList = true := by
  rw [Lib.extract_data, hT]
  have hl : s.data.toList.length = s.size := by simp
  have h1 := nothing_skip false (s.data.toList.drop A)
  have h2 := skip_le false (s.data.toList.drop A)
  rw [List.length_drop, hl] at h1 h2
  have e : blankAt s.data.toList A - A = s.size - A - (skip false (s.data.toList.drop A)).length := by
    unfold blankAt
    rw [hl]
    omega
  rw [e]
  exact h1

theorem extract_maxLen (s : ByteArray) (a b : Nat) (h : s.size ≤ 2000) : (s.extract a b).size ≤ maxLen := by
  rw [ByteArray.size_extract]
  unfold maxLen
  omega

set_option maxHeartbeats 2000000 in
set_option maxRecDepth 100000 in
theorem lexSpans_walk (s : ByteArray) (w : World) (hs : s.size ≤ maxLen) (ht : Tab w) :
    Calls Tryd.prog 9 #[.string s] w fun e w' => e = .returned (.bool true) ∧ Below w.heap.size w w' := by
  have HT := Lib.hid ht
  clear ht
  by_cases h2000 : 2000 < s.size
  · have h2 : (2000 : Int) < (s.size : Int) := by omega
    clear hs
    go_enter Tryd.func9, Tryd.ntmps9
    go_wp2
    go_ret
    exact ⟨rfl, Below.refl _ _⟩
  have h2 : ¬ (2000 : Int) < (s.size : Int) := by omega
  have hsb : s.size ≤ 1099511627776 := by omega
  clear hs
  have hlen := lexL_length s.data.toList
  have hsl : s.data.toList.length = s.size := by simp
  rw [hsl] at hlen
  have HSL := Lib.hid hsl
  clear hsl
  cases hq : lexL s.data.toList with
  | mk toks fault =>
  rw [hq] at hlen
  have hlen2 : toks.length ≤ s.size := hlen
  clear hlen
  cases fault with
  | some p =>
    go_enter Tryd.func9, Tryd.ntmps9
    go_wp2_with fail
    refine (lex_bad s w toks p hq hsb HT.out).mono ?_
    rintro e w1 ⟨rfl, hb1⟩
    have HT1 := Lib.hid (HT.out.below hb1)
    go_wp2_with fail
    refine (wakes02 w1 HT1.out).mono ?_
    rintro e w2 ⟨rfl, hb2⟩
    go_wp2
    go_ret
    exact ⟨rfl, hb1.trans (hb2.mono hb1.size)⟩
  | none =>
    have hsp := spans_lexL _ _ hq
    go_enter Tryd.func9, Tryd.ntmps9
    go_wp2_with fail
    refine (lex_ok s w toks hq hsb HT.out).mono ?_
    rintro e w1 ⟨v, rfl, hown, hb1⟩
    have HT1 := Lib.hid (HT.out.below hb1)
    have hhas := Has.of_owns hown
    have hvl : ∃ a c, v = .slice a toks.length c := by
      rcases hhas.2 with ⟨rfl, h0⟩ | ⟨b, o, c, rfl, _⟩
      · exact ⟨none, 0, by rw [h0]⟩
      · exact ⟨_, _, rfl⟩
    obtain ⟨a, c, rfl⟩ := hvl
    have HH := Lib.hid hhas
    clear hhas hown hq
    go_wp2_with fail
    go_loopw [6, 7, 8] (fun x i _ wr => ∃ (k A n : Nat), i = .int .i64 k ∧ x = .int .i64 A ∧ A ≤ s.size ∧ k ≤ toks.length + 1 ∧ SpanSt s toks k A ∧ wr = w1.drewN n) (fun _ i _ _ => toks.length + 1 - (intOf i).toNat)
    case atStart => exact ⟨0, 0, 0, rfl, rfl, Nat.zero_le _, Nat.zero_le _, .inl ⟨Nat.zero_le _, hsp⟩, rfl⟩
    case round =>
      obtain ⟨k, A, n, rfl, rfl, hA, hk, hst, rfl⟩ := hrel
      have HTn : Hid (Tab (w1.drewN n)) := Lib.hid (HT1.out.below (below_drewN (Below.refl _ _) n))
      by_cases hk1 : k < toks.length
      · have hst2 : Spans s.data.toList A (toks.drop k) := by
          rcases hst with ⟨_, h⟩ | h
          · exact h
          · omega
        rw [List.drop_eq_getElem_cons hk1] at hst2
        obtain ⟨_, hp1, hp2, hp3, hp4, hp5⟩ := hst2
        rw [HSL.out] at hp2
        have hbl := blankAt_le s.data.toList A (by rw [HSL.out]; exact hA)
        have hgap := gap_nothing s A _ hA hp1
        have hAT : A ≤ toks[k].pos := by rw [hp1]; exact hbl.1
        generalize htk : toks[k] = t at *
        have HTK := Lib.hid htk
        clear htk hbl hp1 hst
        rcases HH.out.2 with ⟨hv, h0⟩ | ⟨b, o, cc, hv, hn1, hb0, hcells⟩
        · omega
        obtain ⟨rfl, _, rfl⟩ := Value.slice.inj hv
        clear hv
        have hat := toksCells_at toks k hk1
        rw [HTK.out] at hat
        have c1 : w1.cell? ⟨b, o + k * 3 + 1, none⟩ = _ := (hcells (k * 3 + 1) (by omega)).trans hat.2.1
        have c2 : w1.cell? ⟨b, o + k * 3 + 2, none⟩ = _ := (hcells (k * 3 + 2) (by omega)).trans hat.2.2
        clear hat hcells
        have hxt : s.extract t.pos (t.pos + t.text.length) = ⟨t.text.toArray⟩ := by
          apply Go.WideShapes.bytes_inj
          rw [Lib.extract_data, Nat.add_sub_cancel_left, ← hp3]
        have HP3 := Lib.hid hp3
        clear hp3
        obtain ⟨E, hE⟩ : ∃ E : Nat, E = t.pos + t.text.length := ⟨_, rfl⟩
        rw [← hE] at hxt hp5
        have HX := Lib.hid hxt
        have hE1 : t.pos ≤ E := by omega
        have hE2 : E ≤ s.size := by omega
        have hEI : (t.pos : Int) + (t.text.length : Int) = (E : Int) := by omega
        have HEI := Lib.hid hEI
        have HE := Lib.hid hE
        have hlz : ((t.text.length : Int) == 0) = false := by rw [beq_eq_false_iff_ne]; omega
        clear hxt hE hEI
        go_wp2_with fail
        refine (nothing_any (s.extract A t.pos) _ (extract_maxLen s A t.pos (by omega)) hgap).mono ?_
        rintro e w2 ⟨rfl, rfl⟩
        go_wp2_with fail
        rw [HEI.out]
        have hx := HX.out
        refine wp_region_quiet_lit (by kernel_rfl) (by kernel_rfl) ?_
        repeat (quiet_step (fail))
        refine wpQuiet_nil ?_
        intro _ hw'
        obtain ⟨nq, hw''⟩ := hw'
        subst hw''
        go_wp2
        go_roundw
        case rel => exact ⟨k + 1, E, n + nq, by go_num, rfl, hE2, by omega, .inl ⟨by omega, hp5⟩, rfl⟩
        case measure => simp [intOf]; omega
      · by_cases hk2 : k = toks.length
        · have hst2 : Spans s.data.toList A (toks.drop k) := by
            rcases hst with ⟨_, h⟩ | h
            · exact h
            · omega
          rw [hk2, List.drop_length] at hst2
          have hbl := hst2.2
          rw [HSL.out] at hbl
          have hgap := gap_nothing s A s.size hA hbl.symm
          clear hst hst2 hbl
          have HK := Lib.hid hk2
          have hk3 : k ≤ toks.length := by omega
          have hk4 : toks.length ≤ k := by omega
          clear hk2
          go_wp2_with fail
          refine (nothing_any (s.extract A s.size) _ (extract_maxLen s A s.size (by omega)) hgap).mono ?_
          rintro e w2 ⟨rfl, rfl⟩
          go_wp2_with fail
          go_roundw
          case rel => exact ⟨k + 1, A, n, by go_num, rfl, hA, by omega, .inr (by rw [HK.out]), rfl⟩
          case measure => simp [intOf]; omega
        · have hk3 : toks.length < k := by omega
          clear hst
          go_wp2_with fail
          refine (wakes02 _ HTn.out).mono ?_
          rintro e w2 ⟨rfl, hb2⟩
          go_wp2
          go_ret
          exact ⟨rfl, (below_drewN hb1 n).trans (hb2.mono hb1.size)⟩
end Go.Proofs.YtjfdagacohkboaaDoor
