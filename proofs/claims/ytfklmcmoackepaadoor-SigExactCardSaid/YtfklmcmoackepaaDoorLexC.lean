/- Walk of lex.one. -/
import Derived.Test.YtfklmcmoackepaaDoorRefGet
import Derived.Test.YtfklmcmoackepaaDoorRegion
import Derived.Lib.Strings
import Derived.StillTailTactics
namespace Go.Proofs.YtfklmcmoackepaaDoor
open Go.RowKit

def isAlnum (c : UInt8) : Bool := isLetter c.toNat || isDigit c.toNat
def isDig (c : UInt8) : Bool := isDigit c.toNat

/-- the token that begins a text: its kind, its bytes, whether it is one -/
def oneL : List UInt8 → Nat × List UInt8 × Bool
  | [] => (0, [], false)
  | c :: r =>
    if c.toNat = 40 then (1, [40], true)
    else if c.toNat = 41 then (2, [41], true)
    else if isLetter c.toNat = true then (3, c :: r.takeWhile isAlnum, decide ((r.takeWhile isAlnum).length + 1 ≤ 20))
    else if isDigit c.toNat = true then (4, c :: r.takeWhile isDig, (getR (c :: r.takeWhile isDig)).isSome && !((r.dropWhile isDig).head?.any fun d => isLetter d.toNat))
    else (0, [], false)

/-- a token as Go has it -/
def tokV (kind : Nat) (text : List UInt8) (pos : Nat) : Value := .agg #[.int .i64 kind, .string ⟨text.toArray⟩, .int .i64 pos]
def oneV (t : Nat × List UInt8 × Bool) (pos : Nat) : Value := .tuple #[tokV t.1 t.2.1 (if t.1 = 0 then 0 else pos), .bool t.2.2]

theorem retTwo {a b c d : Value} (h1 : a = b) (h2 : c = d) : Ending.returned (.tuple #[a, c]) = .returned (.tuple #[b, d]) := by rw [h1, h2]

theorem takeWhile_step {p : UInt8 → Bool} {s : ByteArray} {k : Nat} (h : k < s.size) (hp : p s[k] = true) :
    ((s.data.toList.drop k).takeWhile p).length = ((s.data.toList.drop (k + 1)).takeWhile p).length + 1 := by
  rw [drop_cons s k h, List.takeWhile_cons, if_pos hp]; rfl
theorem takeWhile_stop {p : UInt8 → Bool} {s : ByteArray} {k : Nat} (h : k < s.size) (hp : p s[k] = false) : ((s.data.toList.drop k).takeWhile p).length = 0 := by
  rw [drop_cons s k h, List.takeWhile_cons, if_neg (by simp [hp])]; rfl
theorem takeWhile_end {p : UInt8 → Bool} {s : ByteArray} : ((s.data.toList.drop s.size).takeWhile p).length = 0 := by
  rw [drop_size]; rfl
theorem take_takeWhile {p : UInt8 → Bool} (l : List UInt8) : l.take (l.takeWhile p).length = l.takeWhile p := by
  induction l with
  | nil => rfl
  | cons c l ih =>
    rw [List.takeWhile_cons]
    split
    · simp [ih]
    · rfl
theorem drop_takeWhile {p : UInt8 → Bool} (l : List UInt8) : l.drop (l.takeWhile p).length = l.dropWhile p := by
  induction l with
  | nil => rfl
  | cons c l ih =>
    rw [List.takeWhile_cons, List.dropWhile_cons]
    split
    · simp [ih]
    · rfl
/-- the bytes of a word -/
theorem extract_word {p : UInt8 → Bool} {s : ByteArray} {k e : Nat} (h : k < s.size) (he : e = k + 1 + ((s.data.toList.drop (k + 1)).takeWhile p).length) :
    s.extract k e = ⟨(s[k] :: (s.data.toList.drop (k + 1)).takeWhile p).toArray⟩ := by
  apply Go.WideShapes.bytes_inj
  rw [Lib.extract_data, drop_cons s k h, he]
  rw [show k + 1 + ((s.data.toList.drop (k + 1)).takeWhile p).length - k = ((s.data.toList.drop (k + 1)).takeWhile p).length + 1 by omega]
  rw [List.take_succ_cons, take_takeWhile]

theorem oneL_at {s : ByteArray} {k : Nat} (h : k < s.size) : oneL (s.data.toList.drop k) = oneL (s[k] :: s.data.toList.drop (k + 1)) := by rw [drop_cons s k h]

set_option maxHeartbeats 1000000 in
theorem one_paren (s : ByteArray) (k : Nat) (w : World) (hs : s.size ≤ maxLen) (h : k < s.size) (hc : s[k].toNat = 40 ∨ s[k].toNat = 41) :
    Calls Tryd.prog 30 #[.string s, .int .i64 k] w fun e w' => e = .returned (oneV (oneL (s.data.toList.drop k)) k) ∧ Below w.heap.size w w' := by
  unfold maxLen at hs
  have HO := Lib.hid (oneL_at h)
  rcases hc with hc | hc
  · have h1 : ((s[k].toNat : Int) == 40) = true := by simp; omega
    have HC := Lib.hid hc
    clear hc
    go_enter Tryd.func30, Tryd.ntmps30
    go_wp2
    exact bodyPost_ret (v := .tuple #[.agg #[.int .i64 1, .string { data := #[40] }, .int .i64 k], .bool true]) (by simp [results, Tryd.results30, go_sem]) rfl
      ⟨by rw [HO.out]; simp [oneL, oneV, tokV, HC.out], (Below.refl _ _).alloc (Nat.le_refl _) _⟩
  · have h0 : ((s[k].toNat : Int) == 40) = false := by simp; omega
    have h1 : ((s[k].toNat : Int) == 41) = true := by simp; omega
    have HC := Lib.hid hc
    clear hc
    go_enter Tryd.func30, Tryd.ntmps30
    go_wp2
    exact bodyPost_ret (v := .tuple #[.agg #[.int .i64 2, .string { data := #[41] }, .int .i64 k], .bool true]) (by simp [results, Tryd.results30, go_sem]) rfl
      ⟨by rw [HO.out]; simp [oneL, oneV, tokV, HC.out], (Below.refl _ _).alloc (Nat.le_refl _) _⟩

set_option maxHeartbeats 1000000 in
theorem one_none (s : ByteArray) (k : Nat) (w : World) (hs : s.size ≤ maxLen) (h : k < s.size) (h40 : s[k].toNat ≠ 40) (h41 : s[k].toNat ≠ 41) (hl : isLetter s[k].toNat = false) (hd : isDigit s[k].toNat = false) :
    Calls Tryd.prog 30 #[.string s, .int .i64 k] w fun e w' => e = .returned (oneV (oneL (s.data.toList.drop k)) k) ∧ Below w.heap.size w w' := by
  unfold maxLen at hs
  have HO := Lib.hid (oneL_at h)
  have h0 : ((s[k].toNat : Int) == 40) = false := by simp; omega
  have h1 : ((s[k].toNat : Int) == 41) = false := by simp; omega
  go_enter Tryd.func30, Tryd.ntmps30
  go_wp2_with fail
  refine (letter_any _ _).mono ?_
  rintro e w1 ⟨rfl, rfl⟩
  go_wp2_with fail
  refine (digit_any _ _).mono ?_
  rintro e w1 ⟨rfl, rfl⟩
  go_wp2
  exact bodyPost_ret (v := .tuple #[.agg #[.int .i64 0, .string { data := #[] }, .int .i64 0], .bool false]) (by simp [results, Tryd.results30, go_sem]) rfl
    ⟨by rw [HO.out]; simp [oneL, oneV, tokV, h40, h41, hl, hd], (Below.refl _ _).alloc (Nat.le_refl _) _⟩

/-- where a word ends -/
def wordEnd (p : UInt8 → Bool) (s : ByteArray) (k : Nat) : Nat := k + 1 + ((s.data.toList.drop (k + 1)).takeWhile p).length
theorem wordEnd_le (p : UInt8 → Bool) (s : ByteArray) (k : Nat) (h : k < s.size) : wordEnd p s k ≤ s.size := by
  unfold wordEnd
  have h1 := (List.takeWhile_prefix p (l := s.data.toList.drop (k + 1))).length_le
  have h2 : s.data.toList.length = s.size := by simp
  rw [List.length_drop, h2] at h1
  omega

theorem word_ret {s : ByteArray} {k j : Nat} (h : k < s.size) (hj : j = wordEnd isAlnum s k) (ho : oneL (s.data.toList.drop k) = oneL (s[k] :: s.data.toList.drop (k + 1)))
    (h40 : s[k].toNat ≠ 40) (h41 : s[k].toNat ≠ 41) (hl : isLetter s[k].toNat = true) :
    Ending.returned (.tuple #[.agg #[.int .i64 3, .string (s.extract k j), .int .i64 k], .bool (decide ((j : Int) - (k : Int) ≤ 20))]) = .returned (oneV (oneL (s.data.toList.drop k)) k) := by
  rw [ho, extract_word (p := isAlnum) h hj]
  simp only [oneL, if_neg h40, if_neg h41, if_pos hl, oneV, tokV]
  rw [if_neg (by decide)]
  have : decide ((j : Int) - (k : Int) ≤ 20) = decide ((List.takeWhile isAlnum (List.drop (k + 1) s.data.toList)).length + 1 ≤ 20) := by
    unfold wordEnd at hj
    rw [decide_eq_decide]
    omega
  rw [this]
  rfl

set_option maxHeartbeats 1000000 in
theorem one_word (s : ByteArray) (k : Nat) (w : World) (hs : s.size ≤ maxLen) (h : k < s.size) (h40 : s[k].toNat ≠ 40) (h41 : s[k].toNat ≠ 41) (hl : isLetter s[k].toNat = true) :
    Calls Tryd.prog 30 #[.string s, .int .i64 k] w fun e w' => e = .returned (oneV (oneL (s.data.toList.drop k)) k) ∧ Below w.heap.size w w' := by
  unfold maxLen at hs
  have HO := Lib.hid (oneL_at h)
  have h0 : ((s[k].toNat : Int) == 40) = false := by simp; omega
  have h1 : ((s[k].toNat : Int) == 41) = false := by simp; omega
  go_enter Tryd.func30, Tryd.ntmps30
  go_wp2_with fail
  refine (letter_any _ _).mono ?_
  rintro e w1 ⟨rfl, rfl⟩
  go_wp2_with fail
  go_loop [7] (fun i => ∃ j : Nat, k + 1 ≤ j ∧ j ≤ s.size ∧ i = .int .i64 j ∧ j + ((s.data.toList.drop j).takeWhile isAlnum).length = wordEnd isAlnum s k) (fun i => s.size - (intOf i).toNat)
  case atStart => exact ⟨k + 1, by omega, by omega, by go_num, rfl⟩
  case round =>
    obtain ⟨j, hkj, hj, rfl, hrest⟩ := hrel
    have HR := Lib.hid hrest
    clear hrest
    by_cases hjt : j < s.size
    · by_cases ha : isAlnum s[j] = true
      · have hst := takeWhile_step hjt ha
        have HST := Lib.hid hst
        clear hst
        by_cases hl2 : isLetter s[j].toNat = true
        · go_wp2_with fail
          refine (letter_any _ _).mono ?_
          rintro e w1 ⟨rfl, rfl⟩
          go_wp2_with fail
          go_round
          case rel => exact ⟨j + 1, by omega, by omega, by go_num, by have h1 := HR.out; have h2 := HST.out; omega⟩
          case measure => simp [intOf]; omega
        · have hl3 : isLetter s[j].toNat = false := by simpa using hl2
          have hd3 : isDigit s[j].toNat = true := by simpa [isAlnum, hl3] using ha
          clear hl2
          go_wp2_with fail
          refine (letter_any _ _).mono ?_
          rintro e w1 ⟨rfl, rfl⟩
          go_wp2_with fail
          refine (digit_any _ _).mono ?_
          rintro e w1 ⟨rfl, rfl⟩
          go_wp2_with fail
          go_round
          case rel => exact ⟨j + 1, by omega, by omega, by go_num, by have h1 := HR.out; have h2 := HST.out; omega⟩
          case measure => simp [intOf]; omega
      · have ha0 : isAlnum s[j] = false := by simpa using ha
        have hl3 : isLetter s[j].toNat = false := by simp [isAlnum] at ha0; exact ha0.1
        have hd3 : isDigit s[j].toNat = false := by simp [isAlnum] at ha0; exact ha0.2
        have hj2 : j = wordEnd isAlnum s k := by have := takeWhile_stop hjt ha0; have := HR.out; omega
        have HJ := Lib.hid hj2
        clear hj2 ha ha0
        go_wp2_with fail
        refine (letter_any _ _).mono ?_
        rintro e w1 ⟨rfl, rfl⟩
        go_wp2_with fail
        refine (digit_any _ _).mono ?_
        rintro e w1 ⟨rfl, rfl⟩
        go_wp2_with fail
        exact bodyPost_ret (v := .tuple #[.agg #[.int .i64 3, .string (s.extract k j), .int .i64 k], .bool (decide ((j : Int) - (k : Int) ≤ 20))]) (by simp [results, Tryd.results30, go_sem]) rfl
          ⟨word_ret h HJ.out HO.out h40 h41 hl, (Below.refl _ _).alloc (Nat.le_refl _) _⟩
    · have hj2 : j = wordEnd isAlnum s k := by
        have : j = s.size := by omega
        have := HR.out
        subst j
        have := takeWhile_end (p := isAlnum) (s := s)
        omega
      have HJ := Lib.hid hj2
      clear hj2
      go_wp2_with fail
      exact bodyPost_ret (v := .tuple #[.agg #[.int .i64 3, .string (s.extract k j), .int .i64 k], .bool (decide ((j : Int) - (k : Int) ≤ 20))]) (by simp [results, Tryd.results30, go_sem]) rfl
        ⟨word_ret h HJ.out HO.out h40 h41 hl, (Below.refl _ _).alloc (Nat.le_refl _) _⟩

/-- a struct of three cells that was laid as the last block, behind a call -/
theorem three_cells {w w1 : World} {a b c : Value} {t : TypeId} (hb : Below (w.alloc (.cells #[a, b, c] t)).heap.size (w.alloc (.cells #[a, b, c] t)) w1) :
    w1.cell? ⟨w.heap.size, 0, none⟩ = some a ∧ w1.cell? ⟨w.heap.size, 1, none⟩ = some b ∧ w1.cell? ⟨w.heap.size, 2, none⟩ = some c ∧
    w1.frozen? ⟨w.heap.size, 0, none⟩ = false ∧ w1.frozen? ⟨w.heap.size, 1, none⟩ = false ∧ w1.frozen? ⟨w.heap.size, 2, none⟩ = false ∧ w.heap.size < w1.heap.size := by
  refine ⟨?_, ?_, ?_, ?_, ?_, ?_, ?_⟩
  · rw [hb.cell (p := ⟨w.heap.size, 0, none⟩) (by simp)]; simp [go_sem]
  · rw [hb.cell (p := ⟨w.heap.size, 1, none⟩) (by simp)]; simp [go_sem]
  · rw [hb.cell (p := ⟨w.heap.size, 2, none⟩) (by simp)]; simp [go_sem]
  · rw [hb.frozen (p := ⟨w.heap.size, 0, none⟩) (by simp)]; simp [go_sem]
  · rw [hb.frozen (p := ⟨w.heap.size, 1, none⟩) (by simp)]; simp [go_sem]
  · rw [hb.frozen (p := ⟨w.heap.size, 2, none⟩) (by simp)]; simp [go_sem]
  · have := hb.size; simp at this; omega

theorem get_some (s : ByteArray) (w : World) (g : Nat) (hg : getN s.data.toList = some g) (hs : s.size ≤ maxLen) (ht : Tab w) :
    Calls Tryd.prog 45 #[.string s] w fun e w' => e = .returned (.tuple #[.int .i64 g, .bool true]) ∧ Below w.heap.size w w' := by
  have := get_any s w hs ht
  unfold getVal at this
  rw [hg] at this
  exact this
theorem get_none (s : ByteArray) (w : World) (hg : getN s.data.toList = none) (hs : s.size ≤ maxLen) (ht : Tab w) :
    Calls Tryd.prog 45 #[.string s] w fun e w' => e = .returned (.tuple #[.int .i64 0, .bool false]) ∧ Below w.heap.size w w' := by
  have := get_any s w hs ht
  unfold getVal at this
  rw [hg] at this
  exact this

/-- what stands behind a word -/
theorem head_at {s : ByteArray} {j : Nat} (h : j < s.size) : (s.data.toList.drop j).head? = some s[j] := by rw [drop_cons s j h]; rfl
theorem head_end {s : ByteArray} {j : Nat} (h : j = s.size) : (s.data.toList.drop j).head? = none := by rw [h, drop_size]; rfl
theorem num_ret {s : ByteArray} {k j : Nat} (h : k < s.size) (hj : j = wordEnd isDig s k) (ho : oneL (s.data.toList.drop k) = oneL (s[k] :: s.data.toList.drop (k + 1)))
    (h40 : s[k].toNat ≠ 40) (h41 : s[k].toNat ≠ 41) (hl : isLetter s[k].toNat = false) (hd : isDigit s[k].toNat = true) (b : Bool)
    (hb : b = ((getN (s.extract k j).data.toList).isSome && !((s.data.toList.drop j).head?.any fun d => isLetter d.toNat))) :
    Ending.returned (.tuple #[.agg #[.int .i64 4, .string (s.extract k j), .int .i64 k], .bool b]) = .returned (oneV (oneL (s.data.toList.drop k)) k) := by
  have he := extract_word (p := isDig) h hj
  have hdr : s.data.toList.drop j = (s.data.toList.drop (k + 1)).dropWhile isDig := by
    rw [hj, wordEnd, ← drop_takeWhile, List.drop_drop]
  rw [ho]
  rw [he, hdr, getN_eq_getR] at hb
  rw [he]
  simp only [oneL, if_neg h40, if_neg h41, hl, hd, oneV, tokV, if_true, hb]
  simp
theorem below_three {w w1 : World} {o : Obj} {x y z : Value} (hb : Below (w.alloc o).heap.size (w.alloc o) w1) (m : Nat) :
    Below w.heap.size w ((((w1.setCell ⟨w.heap.size, 0, none⟩ x).setCell ⟨w.heap.size, 1, none⟩ y).setCell ⟨w.heap.size, 2, none⟩ z).drewN m) := by
  have h1 : Below w.heap.size w w1 := ((Below.refl _ w).alloc (Nat.le_refl _) o).trans (hb.mono (by simp))
  exact below_drewN (((h1.setCell (Nat.le_refl _) _).setCell (Nat.le_refl _) _).setCell (Nat.le_refl _) _) m

end Go.Proofs.YtfklmcmoackepaaDoor
