/- Walks of lex.Name, of transhiplaw02's helpers. -/
import Derived.Test.YtjfdagacohkboaaDoorRefLex
namespace Go.Proofs.YtjfdagacohkboaaDoor
open Go.RowKit

/-- lex.Name -/
def nameL (l : List UInt8) : Bool :=
  match l with
  | [] => false
  | c :: _ => isLetter c.toNat && ((oneL l).2.2 && decide ((oneL l).2.1.length = l.length))

set_option maxHeartbeats 1000000 in
theorem name_any (s : ByteArray) (w : World) (hs : s.size ≤ maxLen) (ht : Tab w) :
    Calls Tryd.prog 21 #[.string s] w fun e w' => e = .returned (.bool (nameL s.data.toList)) ∧ Below w.heap.size w w' := by
  have HS := Lib.hid hs
  unfold maxLen at hs
  have HT := Lib.hid ht
  clear ht
  have HL : Hid (s.data.toList.length = s.size) := Lib.hid (by simp)
  by_cases h0 : s.size = 0
  · have h0' : ((s.size : Int) == 0) = true := by simp [h0]
    have HN : Hid (nameL s.data.toList = false) := Lib.hid (by
      have : s.data.toList = [] := List.eq_nil_of_length_eq_zero (by rw [HL.out, h0])
      rw [this]; rfl)
    clear h0
    go_enter Tryd.func21, Tryd.ntmps21
    go_wp2
    go_ret
    exact ⟨by rw [HN.out]; rfl, Below.refl _ _⟩
  have h0' : ((s.size : Int) == 0) = false := by simp [h0]
  have hpos : 0 < s.size := by omega
  have hcons := drop_cons s 0 hpos
  rw [List.drop_zero] at hcons
  cases hl : isLetter s[0].toNat
  · have HN : Hid (nameL s.data.toList = false) := Lib.hid (by rw [hcons]; simp [nameL, hl])
    clear hcons
    go_enter Tryd.func21, Tryd.ntmps21
    go_wp2_with fail
    refine (letter_any _ _).mono ?_
    rintro e w1 ⟨rfl, rfl⟩
    go_wp2
    go_ret
    exact ⟨by rw [HN.out]; rfl, Below.refl _ _⟩
  cases hq : oneL (s.data.toList.drop 0) with
  | mk kind r2 =>
  obtain ⟨text, ok⟩ := r2
  have hle := oneL_le (s.data.toList.drop 0) (by rw [List.drop_zero, hcons]; simp)
  rw [hq, List.length_drop, HL.out] at hle
  have hle2 : text.length ≤ s.size := hle
  have HN : Hid (nameL s.data.toList = (ok && decide (text.length = s.size))) := Lib.hid (by
    rw [List.drop_zero] at hq
    have e : nameL s.data.toList = (isLetter s[0].toNat && ((oneL s.data.toList).2.2 && decide ((oneL s.data.toList).2.1.length = s.data.toList.length))) := by
      rw [hcons]
      rfl
    rw [e, hq, hl, HL.out]
    rfl)
  clear hcons hle
  cases ok
  · go_enter Tryd.func21, Tryd.ntmps21
    go_wp2_with fail
    refine (letter_any _ _).mono ?_
    rintro e w1 ⟨rfl, rfl⟩
    go_wp2_with fail
    refine (one_no s _ 0 w kind text rfl HS.out HT.out hpos hq).mono ?_
    rintro e w2 ⟨⟨a, b, c, rfl⟩, hb2⟩
    clear hq
    go_wp2
    go_ret
    exact ⟨by rw [HN.out]; rfl, hb2.alloc hb2.size _⟩
  · by_cases hlen : text.length = s.size
    · have hlen' : ((text.length : Int) == (s.size : Int)) = true := by simp; omega
      have HLN := Lib.hid hlen
      clear hlen
      go_enter Tryd.func21, Tryd.ntmps21
      go_wp2_with fail
      refine (letter_any _ _).mono ?_
      rintro e w1 ⟨rfl, rfl⟩
      go_wp2_with fail
      refine (one_yes s _ 0 w kind text rfl HS.out HT.out hpos hq).mono ?_
      rintro e w2 ⟨rfl, hb2⟩
      clear hq
      go_wp2
      go_ret
      exact ⟨by rw [HN.out, HLN.out]; simp, hb2.alloc hb2.size _⟩
    · have hlen' : ((text.length : Int) == (s.size : Int)) = false := by simp; omega
      go_enter Tryd.func21, Tryd.ntmps21
      go_wp2_with fail
      refine (letter_any _ _).mono ?_
      rintro e w1 ⟨rfl, rfl⟩
      go_wp2_with fail
      refine (one_yes s _ 0 w kind text rfl HS.out HT.out hpos hq).mono ?_
      rintro e w2 ⟨rfl, hb2⟩
      clear hq
      go_wp2
      go_ret
      exact ⟨by rw [HN.out]; simp [hlen], hb2.alloc hb2.size _⟩

theorem name_is (s : ByteArray) (w : World) (b : Bool) (hb : nameL s.data.toList = b) (hs : s.size ≤ maxLen) (ht : Tab w) :
    Calls Tryd.prog 21 #[.string s] w fun e w' => e = .returned (.bool b) ∧ Below w.heap.size w w' := by
  have := name_any s w hs ht
  rw [hb] at this
  exact this

theorem lex_ok (s : ByteArray) (w : World) (toks : List Tok) (hl : lexL s.data.toList = (toks, none)) (hs : s.size ≤ 1099511627776) (ht : Tab w) :
    Calls Tryd.prog 17 #[.string s] w fun e w' => ∃ v, e = .returned (.tuple #[v, .int .i64 0, .int .i64 0]) ∧ w'.ownsRow w.heap.size 39 3 v toks.length (toksCells toks) ∧ Below w.heap.size w w' := by
  refine (lex_any s w hs ht).mono ?_
  rintro e w' (⟨v, toks', h1, h2, h3, h4⟩ | ⟨toks', pos, h1, h2, h3⟩)
  · rw [hl] at h1
    obtain ⟨rfl, _⟩ := Prod.mk.inj h1
    exact ⟨v, h2, h3, h4⟩
  · rw [hl] at h1
    cases (Prod.mk.inj h1).2
theorem lex_bad (s : ByteArray) (w : World) (toks : List Tok) (pos : Nat) (hl : lexL s.data.toList = (toks, some pos)) (hs : s.size ≤ 1099511627776) (ht : Tab w) :
    Calls Tryd.prog 17 #[.string s] w fun e w' => e = .returned (.tuple #[.slice none 0 0, .int .i64 2, .int .i64 pos]) ∧ Below w.heap.size w w' := by
  refine (lex_any s w hs ht).mono ?_
  rintro e w' (⟨v, toks', h1, h2, h3, h4⟩ | ⟨toks', pos', h1, h2, h3⟩)
  · rw [hl] at h1
    cases (Prod.mk.inj h1).2
  · rw [hl] at h1
    obtain rfl := Option.some.inj (Prod.mk.inj h1).2
    exact ⟨h2, h3⟩

def fileText1 : List UInt8 := [40, 112, 105, 32, 48, 59, 120]
theorem lex_sample1 : lexL [40, 112, 105, 32, 48, 59, 120] = ([⟨1, [40], 0⟩, ⟨3, [112, 105], 1⟩, ⟨4, [48], 4⟩], none) := by decide +kernel
theorem lex_sample2 : lexL [32, 48, 49] = ([], some 1) := by decide +kernel
theorem name_sample1 : nameL [97, 49] = true := by decide +kernel
theorem name_sample2 : nameL [49, 97] = false := by decide +kernel

set_option maxHeartbeats 1000000 in
theorem wakes02 (w : World) (ht : Tab w) :
    Calls Tryd.prog 19 #[] w fun e w' => e = .returned (.bool true) ∧ Below w.heap.size w w' := by
  have HT := Lib.hid ht
  clear ht
  go_enter Tryd.func19, Tryd.ntmps19
  go_wp2_with fail
  refine (lex_ok _ w _ lex_sample1 (by decide) HT.out).mono ?_
  rintro e w1 ⟨v, rfl, hown, hb1⟩
  have HT1 := Lib.hid (HT.out.below hb1)
  rcases hown.2 with ⟨rfl, h0⟩ | ⟨g, cap, cur, rfl, hg, hh, hnc, hcm, hcs, hrow⟩
  · cases h0
  have c3 := hown.cellAt 3 (by decide)
  have c4 := hown.cellAt 4 (by decide)
  have c8 := hown.cellAt 8 (by decide)
  have hgl : g < w1.heap.size := (Array.getElem?_eq_some_iff.1 hh).1
  clear hh hrow hown
  simp only [toksCells, List.flatMap_cons, List.flatMap_nil, tokCells, List.append_nil, List.cons_append, List.nil_append, List.getElem?_cons_succ, List.getElem?_cons_zero] at c3 c4 c8
  go_wp2_with fail
  refine (lex_bad _ w1 _ _ lex_sample2 (by decide) HT1.out).mono ?_
  rintro e w2 ⟨rfl, hb2⟩
  have HT2 := Lib.hid (HT1.out.below hb2)
  have d3 := (hb2.cell (p := ⟨g, 3, none⟩) hgl).trans c3
  have d4 := (hb2.cell (p := ⟨g, 4, none⟩) hgl).trans c4
  have d8 := (hb2.cell (p := ⟨g, 8, none⟩) hgl).trans c8
  clear c3 c4 c8
  go_wp2_with fail
  refine (name_is _ w2 true name_sample1 (by decide) HT2.out).mono ?_
  rintro e w3 ⟨rfl, hb3⟩
  have HT3 := Lib.hid (HT2.out.below hb3)
  go_wp2_with fail
  refine (name_is _ w3 false name_sample2 (by decide) HT3.out).mono ?_
  rintro e w4 ⟨rfl, hb4⟩
  go_wp2
  go_ret
  have b2 := hb1.trans (hb2.mono hb1.size)
  have b3 := b2.trans (hb3.mono b2.size)
  exact ⟨rfl, b3.trans (hb4.mono b3.size)⟩

set_option maxHeartbeats 1000000 in
/-- two rows of the same tokens are the same -/
theorem same_any (l : List Tok) (va vb : Value) (w : World) (ha : Has w 3 va l.length (toksCells l)) (hb : Has w 3 vb l.length (toksCells l)) (hl : l.length ≤ 1099511627776) :
    Calls Tryd.prog 20 #[va, vb] w fun e w' => e = .returned (.bool true) ∧ Below w.heap.size w w' := by
  have hln : ((l.length : Int) != (l.length : Int)) = false := by simp
  rcases ha.2 with ⟨rfl, ha0⟩ | ⟨ba, oa, ca, rfl, hna, hba, hca⟩
  · have h0 : l = [] := List.eq_nil_of_length_eq_zero ha0
    subst h0
    rcases hb.2 with ⟨rfl, hb0⟩ | ⟨bb, ob, cb, rfl, hnb, hbb, hcb⟩
    all_goals
      go_enter Tryd.func20, Tryd.ntmps20
      go_wp2_with fail
      go_loop [5] (fun i => i = .int .i64 0) (fun _ => 0)
      case atStart => exact rfl
      case round =>
        subst hrel
        go_wp2
        go_ret
        exact ⟨rfl, Below.refl _ _⟩
  · rcases hb.2 with ⟨rfl, hb0⟩ | ⟨bb, ob, cb, rfl, hnb, hbb, hcb⟩
    · have h0 : l = [] := List.eq_nil_of_length_eq_zero hb0
      subst h0
      go_enter Tryd.func20, Tryd.ntmps20
      go_wp2_with fail
      go_loop [5] (fun i => i = .int .i64 0) (fun _ => 0)
      case atStart => exact rfl
      case round =>
        subst hrel
        go_wp2
        go_ret
        exact ⟨rfl, Below.refl _ _⟩
    · have HA := Lib.hid hca
      have HB := Lib.hid hcb
      clear hca hcb
      go_enter Tryd.func20, Tryd.ntmps20
      go_wp2_with fail
      go_loopw [5] (fun i wr => ∃ (k n : Nat), k ≤ l.length ∧ i = .int .i64 k ∧ wr = w.drewN n) (fun i _ => l.length - (intOf i).toNat)
      case atStart => exact ⟨0, 0, Nat.zero_le _, rfl, rfl⟩
      case round =>
        obtain ⟨k, n, hk, rfl, rfl⟩ := hrel
        by_cases hlt : k < l.length
        · have hat := toksCells_at l k hlt
          have a0 := (HA.out (k * 3) (by omega)).trans hat.1
          have a1 : w.cell? ⟨ba, oa + k * 3 + 1, none⟩ = _ := (HA.out (k * 3 + 1) (by omega)).trans hat.2.1
          have a2 : w.cell? ⟨ba, oa + k * 3 + 2, none⟩ = _ := (HA.out (k * 3 + 2) (by omega)).trans hat.2.2
          have b0 := (HB.out (k * 3) (by omega)).trans hat.1
          have b1 : w.cell? ⟨bb, ob + k * 3 + 1, none⟩ = _ := (HB.out (k * 3 + 1) (by omega)).trans hat.2.1
          have b2 : w.cell? ⟨bb, ob + k * 3 + 2, none⟩ = _ := (HB.out (k * 3 + 2) (by omega)).trans hat.2.2
          clear hat
          go_wp2_with fail
          refine wp_region_quiet_lit (by kernel_rfl) (by kernel_rfl) ?_
          repeat (quiet_step (fail))
          refine wpQuiet_nil ?_
          intro _ hw'
          obtain ⟨nq, hw''⟩ := hw'
          subst hw''
          go_wp2
          go_roundw
          case rel => exact ⟨k + 1, n + nq, by omega, by go_num, rfl⟩
          case measure => simp [intOf]; omega
        · go_wp2
          go_ret
          exact ⟨rfl, below_drewN (Below.refl _ _) _⟩
end Go.Proofs.YtjfdagacohkboaaDoor
