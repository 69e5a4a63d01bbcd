/- Names: transhipref01.Name, and the walk of transhiplaw02.LexNames. -/
import Derived.Test.YtjfdagacohkboaaDoorLaw02b
namespace Go.Proofs.YtjfdagacohkboaaDoor
open Go.RowKit

/-- transhipref01.Name -/
def nameR (l : List UInt8) : Bool :=
  match l with
  | [] => false
  | c :: r => isLetter c.toNat && (decide (r.length + 1 ≤ 20) && (c :: r).all isAlnum)

theorem takeWhile_all {p : UInt8 → Bool} : ∀ (l : List UInt8), (l.takeWhile p).length = l.length ↔ l.all p = true
  | [] => by simp
  | c :: l => by
    rw [List.takeWhile_cons, List.all_cons]
    have h1 := (List.takeWhile_prefix p (l := l)).length_le
    cases h : p c
    · simp
    · simp only [if_true, List.length_cons, Bool.true_and]
      rw [← takeWhile_all l]
      omega
theorem takeWhile_eq {p : UInt8 → Bool} (l : List UInt8) (h : l.all p = true) : l.takeWhile p = l := by
  have h1 := List.takeWhile_prefix p (l := l)
  exact h1.eq_of_length ((takeWhile_all l).2 h)

theorem letter_not_paren {c : UInt8} (h : isLetter c.toNat = true) : c.toNat ≠ 40 ∧ c.toNat ≠ 41 ∧ c.toNat ≠ 32 ∧ c.toNat ≠ 9 ∧ c.toNat ≠ 10 ∧ c.toNat ≠ 59 := by
  simp [isLetter] at h
  omega

theorem nameL_eq (l : List UInt8) : nameL l = nameR l := by
  cases l with
  | nil => rfl
  | cons c r =>
    unfold nameL nameR
    cases hl : isLetter c.toNat
    · simp [hl]
    have hp := letter_not_paren hl
    simp only [oneL, if_neg hp.1, if_neg hp.2.1, hl, if_true, Bool.true_and, List.length_cons, List.all_cons, isAlnum, Bool.true_or]
    have h1 := (List.takeWhile_prefix isAlnum (l := r)).length_le
    rw [Bool.eq_iff_iff]
    simp only [Bool.and_eq_true, decide_eq_true_eq]
    have h2 := takeWhile_all (p := isAlnum) r
    constructor
    · rintro ⟨h3, h4⟩
      exact ⟨by omega, h2.1 (by omega)⟩
    · rintro ⟨h3, h4⟩
      have := h2.2 h4
      exact ⟨by omega, by omega⟩

/-- a name is lexed as one word -/
theorem lexL_name (l : List UInt8) (h : nameL l = true) : lexL l = ([⟨3, l, 0⟩], none) := by
  rw [nameL_eq] at h
  cases l with
  | nil => simp [nameR] at h
  | cons c r =>
    simp only [nameR, Bool.and_eq_true, decide_eq_true_eq, List.all_cons] at h
    obtain ⟨hl, hlen, _, hall⟩ := h
    have hp := letter_not_paren hl
    have hsk : skip false (c :: r) = c :: r := by
      simp only [skip]
      rw [if_neg (by omega), if_neg (by omega)]
    have htw := takeWhile_eq r hall
    have ho : oneL (c :: r) = (3, c :: r, true) := by
      simp only [oneL, if_neg hp.1, if_neg hp.2.1, hl, if_true, htw]
      simp [hlen]
    unfold lexL lexS
    rw [hsk]
    have := lexR_good (f := (c :: r).length + 1) (r := c :: r) (pos := 0 + ((c :: r).length - (c :: r).length)) (by simp) (by simp) (by rw [ho])
    rw [this, ho]
    simp [lexS, skip, lexR_nil]

set_option maxHeartbeats 1000000 in
theorem rname_any (s : ByteArray) (w : World) (hs : s.size ≤ maxLen) :
    Calls Tryd.prog 22 #[.string s] w fun e w' => e = .returned (.bool (nameR s.data.toList)) ∧ w = w' := by
  unfold maxLen at hs
  have HL : Hid (s.data.toList.length = s.size) := Lib.hid (by simp)
  by_cases h0 : s.size = 0
  · have h0' : ((s.size : Int) == 0) = true := by simp [h0]
    have HN : Hid (nameR s.data.toList = false) := Lib.hid (by
      have : s.data.toList = [] := List.eq_nil_of_length_eq_zero (by rw [HL.out, h0])
      rw [this]; rfl)
    clear h0
    go_enter Tryd.func22, Tryd.ntmps22
    go_wp2
    go_ret
    exact ⟨by rw [HN.out]; rfl, rfl⟩
  have h0' : ((s.size : Int) == 0) = false := by simp [h0]
  have hpos : 0 < s.size := by omega
  have hcons := drop_cons s 0 hpos
  rw [List.drop_zero] at hcons
  have HN : Hid (nameR s.data.toList = (isLetter s[0].toNat && (decide (s.size ≤ 20) && s.data.toList.all isAlnum))) := Lib.hid (by
    have e : nameR s.data.toList = (isLetter s[0].toNat && (decide (s.data.toList.length ≤ 20) && s.data.toList.all isAlnum)) := by
      rw [hcons]
      rfl
    rw [e, HL.out])
  clear hcons
  by_cases h20 : 20 < s.size
  · have h20' : (20 : Int) < (s.size : Int) := by omega
    go_enter Tryd.func22, Tryd.ntmps22
    go_wp2
    go_ret
    exact ⟨by rw [HN.out]; simp; omega, rfl⟩
  have h20' : ¬ (20 : Int) < (s.size : Int) := by omega
  cases hl : isLetter s[0].toNat
  · go_enter Tryd.func22, Tryd.ntmps22
    go_wp2_with fail
    refine (rletter_any _ _).mono ?_
    rintro e w1 ⟨rfl, rfl⟩
    go_wp2
    go_ret
    exact ⟨by rw [HN.out, hl]; rfl, rfl⟩
  go_enter Tryd.func22, Tryd.ntmps22
  go_wp2_with fail
  refine (rletter_any _ _).mono ?_
  rintro e w1 ⟨rfl, rfl⟩
  go_wp2_with fail
  go_loop [3] (fun i => ∃ k : Nat, k ≤ s.size ∧ i = .int .i64 k ∧ (s.data.toList.take k).all isAlnum = true) (fun i => s.size - (intOf i).toNat)
  case atStart => exact ⟨0, Nat.zero_le _, rfl, rfl⟩
  case round =>
    obtain ⟨k, hk, rfl, hall⟩ := hrel
    have HA := Lib.hid hall
    clear hall
    by_cases hlt : k < s.size
    · have hts := take_snoc s k hlt
      have HTS := Lib.hid hts
      clear hts
      cases hl2 : isLetter s[k].toNat
      · cases hd2 : isDigit s[k].toNat
        · have HF : Hid (s.data.toList.all isAlnum = false) := Lib.hid (by
            rw [Bool.eq_false_iff]
            intro hq
            have h3 : isAlnum s[k] = true := by
              rw [List.all_eq_true] at hq
              refine hq _ ?_
              have h4 : s[k] ∈ s.data.toList.drop k := by rw [drop_cons s k hlt]; simp
              exact List.mem_of_mem_drop h4
            simp [isAlnum, hl2, hd2] at h3)
          go_wp2_with fail
          refine (rletter_any _ _).mono ?_
          rintro e w1 ⟨rfl, rfl⟩
          go_wp2_with fail
          refine (rdigit_any _ _).mono ?_
          rintro e w1 ⟨rfl, rfl⟩
          go_wp2
          go_ret
          exact ⟨by rw [HN.out, HF.out]; simp, rfl⟩
        · go_wp2_with fail
          refine (rletter_any _ _).mono ?_
          rintro e w1 ⟨rfl, rfl⟩
          go_wp2_with fail
          refine (rdigit_any _ _).mono ?_
          rintro e w1 ⟨rfl, rfl⟩
          go_wp2
          go_round
          case rel => exact ⟨k + 1, by omega, by go_num, by rw [HTS.out, List.all_append, HA.out]; simp [isAlnum, hl2, hd2]⟩
          case measure => simp [intOf]; omega
      · go_wp2_with fail
        refine (rletter_any _ _).mono ?_
        rintro e w1 ⟨rfl, rfl⟩
        go_wp2
        go_round
        case rel => exact ⟨k + 1, by omega, by go_num, by rw [HTS.out, List.all_append, HA.out]; simp [isAlnum, hl2]⟩
        case measure => simp [intOf]; omega
    · have hk2 : k = s.size := by omega
      subst hk2
      have HAA : Hid (s.data.toList.all isAlnum = true) := Lib.hid (by
        have := HA.out
        rwa [List.take_of_length_le (by simp)] at this)
      clear HA
      go_wp2
      go_ret
      exact ⟨by rw [HN.out, HAA.out, hl]; simp; omega, rfl⟩

set_option maxHeartbeats 1000000 in
theorem lexNames_walk (s : ByteArray) (w : World) (hs : s.size ≤ maxLen) (ht : Tab w) :
    Calls Tryd.prog 8 #[.string s] w fun e w' => e = .returned (.bool true) ∧ Below w.heap.size w w' := by
  have HT := Lib.hid ht
  clear ht
  have HS := Lib.hid hs
  by_cases h100 : 100 < s.size
  · have h2 : (100 : Int) < (s.size : Int) := by omega
    clear hs
    go_enter Tryd.func8, Tryd.ntmps8
    go_wp2
    go_ret
    exact ⟨rfl, Below.refl _ _⟩
  have h2 : ¬ (100 : Int) < (s.size : Int) := by omega
  have hsb : s.size ≤ 1099511627776 := by omega
  clear hs
  cases hn : nameL s.data.toList
  · have hr : nameR s.data.toList = false := by rw [← nameL_eq, hn]
    go_enter Tryd.func8, Tryd.ntmps8
    go_wp2_with fail
    refine (name_is s w false hn HS.out HT.out).mono ?_
    rintro e w1 ⟨rfl, hb1⟩
    have HT1 := Lib.hid (HT.out.below hb1)
    go_wp2_with fail
    refine (rname_any s w1 HS.out).mono ?_
    rintro e w2 ⟨rfl, rfl⟩
    rw [hr]
    go_wp2_with fail
    refine (lex_any s w1 hsb HT1.out).mono ?_
    rintro e w2 (⟨v, toks, h3, rfl, h4, hb2⟩ | ⟨toks, pos, h3, rfl, hb2⟩)
    all_goals
      clear h3
      have HT2 := Lib.hid (HT1.out.below hb2)
      go_wp2_with fail
      refine (name_is s w2 false hn HS.out HT2.out).mono ?_
      rintro e w3 ⟨rfl, hb3⟩
      have HT3 := Lib.hid (HT2.out.below hb3)
      go_wp2_with fail
      refine (wakes02 w3 HT3.out).mono ?_
      rintro e w4 ⟨rfl, hb4⟩
      go_wp2
      go_ret
      have b2 := hb1.trans (hb2.mono hb1.size)
      have b3 := b2.trans (hb3.mono b2.size)
      exact ⟨rfl, b3.trans (hb4.mono b3.size)⟩
  · have hr : nameR s.data.toList = true := by rw [← nameL_eq, hn]
    have hq := lexL_name _ hn
    go_enter Tryd.func8, Tryd.ntmps8
    go_wp2_with fail
    refine (name_is s w true hn HS.out HT.out).mono ?_
    rintro e w1 ⟨rfl, hb1⟩
    have HT1 := Lib.hid (HT.out.below hb1)
    go_wp2_with fail
    refine (rname_any s w1 HS.out).mono ?_
    rintro e w2 ⟨rfl, rfl⟩
    rw [hr]
    go_wp2_with fail
    refine (lex_ok s w1 _ hq hsb HT1.out).mono ?_
    rintro e w2 ⟨v, rfl, hown, hb2⟩
    have HT2 := Lib.hid (HT1.out.below hb2)
    rcases hown.2 with ⟨rfl, h0⟩ | ⟨g, cap, cur, rfl, hg, hh, hnc, hcm, hcs, hrow⟩
    · cases h0
    have c0 := hown.cellAt 0 (by simp)
    have c1 := hown.cellAt 1 (by simp)
    have c2 := hown.cellAt 2 (by simp)
    have hgl : g < w2.heap.size := (Array.getElem?_eq_some_iff.1 hh).1
    clear hh hrow hown
    simp only [toksCells, List.flatMap_cons, List.flatMap_nil, tokCells, List.append_nil, List.getElem?_cons_succ, List.getElem?_cons_zero] at c0 c1 c2
    have hts : (ByteArray.mk s.data.toList.toArray) = s := by cases s; rfl
    rw [hts] at c1
    clear hts hq
    go_wp2_with fail
    refine (name_is s w2 true hn HS.out HT2.out).mono ?_
    rintro e w3 ⟨rfl, hb3⟩
    have HT3 := Lib.hid (HT2.out.below hb3)
    have d0 := (hb3.cell (p := ⟨g, 0, none⟩) hgl).trans c0
    have d1 := (hb3.cell (p := ⟨g, 1, none⟩) hgl).trans c1
    have d2 := (hb3.cell (p := ⟨g, 2, none⟩) hgl).trans c2
    clear c0 c1 c2
    go_wp2_with fail
    refine (wakes02 w3 HT3.out).mono ?_
    rintro e w4 ⟨rfl, hb4⟩
    go_wp2
    go_ret
    have b2 := hb1.trans (hb2.mono hb1.size)
    have b3 := b2.trans (hb3.mono b2.size)
    exact ⟨rfl, b3.trans (hb4.mono b3.size)⟩
end Go.Proofs.YtjfdagacohkboaaDoor
