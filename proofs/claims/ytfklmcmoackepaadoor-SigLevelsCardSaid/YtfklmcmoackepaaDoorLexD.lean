/- Walk of lex.Lex. -/
import Derived.Test.YtfklmcmoackepaaDoorLexM
import Derived.Test.YtfklmcmoackepaaDoorKit
namespace Go.Proofs.YtfklmcmoackepaaDoor
open Go.RowKit

theorem skip_suffix : ∀ (b : Bool) (l : List UInt8), skip b l = l.drop (l.length - (skip b l).length)
  | b, [] => by cases b <;> simp [skip]
  | false, c :: r => by
    have h1 := skip_le false r
    have h2 := skip_le true r
    simp only [skip]
    split
    · rw [show (c :: r).length - (skip false r).length = (r.length - (skip false r).length) + 1 by simp; omega, List.drop_succ_cons]
      exact skip_suffix false r
    · split
      · rw [show (c :: r).length - (skip true r).length = (r.length - (skip true r).length) + 1 by simp; omega, List.drop_succ_cons]
        exact skip_suffix true r
      · simp
  | true, c :: r => by
    have h1 := skip_le false r
    have h2 := skip_le true r
    simp only [skip]
    split
    · rw [show (c :: r).length - (skip false r).length = (r.length - (skip false r).length) + 1 by simp; omega, List.drop_succ_cons]
      exact skip_suffix false r
    · rw [show (c :: r).length - (skip true r).length = (r.length - (skip true r).length) + 1 by simp; omega, List.drop_succ_cons]
      exact skip_suffix true r

theorem blankAt_le (l : List UInt8) (j : Nat) (h : j ≤ l.length) : j ≤ blankAt l j ∧ blankAt l j ≤ l.length := by
  have := skip_le false (l.drop j)
  rw [List.length_drop] at this
  unfold blankAt; omega
theorem skip_drop (l : List UInt8) (j : Nat) (h : j ≤ l.length) : skip false (l.drop j) = l.drop (blankAt l j) := by
  have h1 := skip_suffix false (l.drop j)
  have h2 := skip_le false (l.drop j)
  rw [List.drop_drop] at h1
  rw [h1]
  congr 1
  rw [List.length_drop] at *
  unfold blankAt
  omega
theorem lexS_at (f : Nat) (l : List UInt8) (j : Nat) (h : j ≤ l.length) : lexS f (l.drop j) j = lexR f (l.drop (blankAt l j)) (blankAt l j) := by
  have h2 := skip_le false (l.drop j)
  unfold lexS
  rw [skip_drop l j h]
  congr 1
  rw [List.length_drop] at *
  rw [List.length_drop]
  have := blankAt_le l j h
  omega

theorem oneL_le : ∀ r : List UInt8, r ≠ [] → (oneL r).2.1.length ≤ r.length
  | [], h => absurd rfl h
  | c :: r, _ => by
    have h1 := (List.takeWhile_prefix isAlnum (l := r)).length_le
    have h2 := (List.takeWhile_prefix isDig (l := r)).length_le
    simp only [oneL]
    split
    · simp
    split
    · simp
    split
    · simp; omega
    split
    · simp; omega
    · simp

/-- what is done, and what is still to come -/
def LexSt (s : ByteArray) (done : List Tok) (k : Nat) : Prop :=
  k ≤ s.size ∧ done.length ≤ k ∧ lexL s.data.toList = (done ++ (lexR (s.size + 1) (s.data.toList.drop k) k).1, (lexR (s.size + 1) (s.data.toList.drop k) k).2)

theorem LexSt.start (s : ByteArray) : LexSt s [] (blankAt s.data.toList 0) := by
  have h := blankAt_le s.data.toList 0 (Nat.zero_le _)
  have hl : s.data.toList.length = s.size := by simp
  refine ⟨by omega, Nat.zero_le _, ?_⟩
  have := lexS_at (s.size + 1) s.data.toList 0 (Nat.zero_le _)
  rw [List.drop_zero] at this
  unfold lexL
  rw [hl, this]
  rfl
theorem LexSt.done {s : ByteArray} {done : List Tok} (h : LexSt s done s.size) : lexL s.data.toList = (done, none) := by
  have := h.2.2
  rw [drop_size, lexR_nil] at this
  simpa using this
theorem LexSt.bad {s : ByteArray} {done : List Tok} {k : Nat} (h : LexSt s done k) (hk : k < s.size) (ho : (oneL (s.data.toList.drop k)).2.2 = false) : lexL s.data.toList = (done, some k) := by
  have := h.2.2
  have hne : s.data.toList.drop k ≠ [] := by rw [drop_cons s k hk]; simp
  rw [lexR_bad hne (by simp; omega) ho] at this
  simpa using this
theorem LexSt.next {s : ByteArray} {done : List Tok} {k : Nat} (h : LexSt s done k) (hk : k < s.size) (ho : (oneL (s.data.toList.drop k)).2.2 = true) :
    k + (oneL (s.data.toList.drop k)).2.1.length ≤ s.size ∧ k < blankAt s.data.toList (k + (oneL (s.data.toList.drop k)).2.1.length) ∧
    LexSt s (done ++ [⟨(oneL (s.data.toList.drop k)).1, (oneL (s.data.toList.drop k)).2.1, k⟩]) (blankAt s.data.toList (k + (oneL (s.data.toList.drop k)).2.1.length)) := by
  have hl : s.data.toList.length = s.size := by simp
  have hne : s.data.toList.drop k ≠ [] := by rw [drop_cons s k hk]; simp
  have h1 := oneL_le _ hne
  have h2 := oneL_len _ ho
  rw [List.length_drop, hl] at h1
  have h3 := blankAt_le s.data.toList (k + (oneL (s.data.toList.drop k)).2.1.length) (by omega)
  refine ⟨by omega, by omega, by omega, ?_, ?_⟩
  · have := h.2.1
    rw [List.length_append, List.length_singleton]
    omega
  · have := h.2.2
    rw [lexR_good hne (by simp; omega) ho, List.drop_drop, lexS_at _ _ _ (by omega)] at this
    rw [this]
    simp

theorem Tryd.infoTok : (Tryd.prog.info? 51).map (fun i => (i.zero, i.size, i.bytes)) = some (some (.agg #[.int .i64 0, .string ByteArray.empty, .int .i64 0]), 3, 32) := by kernel_rfl

theorem ownsRow_below {w w1 : World} {base : Nat} {e : TypeId} {size : Nat} {v : Value} {n : Nat} {xs : List Value} (h : w.ownsRow base e size v n xs) (hb : Below w.heap.size w w1) : w1.ownsRow base e size v n xs := by
  refine ⟨h.1, ?_⟩
  rcases h.2 with h2 | ⟨g, cap, cur, rfl, hg, hh, hr⟩
  · exact .inl h2
  · have hlt : g < w.heap.size := (Array.getElem?_eq_some_iff.1 hh).1
    exact .inr ⟨g, cap, cur, rfl, hg, by rw [hb.block g hlt]; exact hh, hr⟩

theorem one_any (s : ByteArray) (k : Nat) (w : World) (hs : s.size ≤ maxLen) (ht : Tab w) (h : k < s.size) :
    Calls Tryd.prog 30 #[.string s, .int .i64 k] w fun e w' => e = .returned (oneV (oneL (s.data.toList.drop k)) k) ∧ Below w.heap.size w w' := by
  by_cases h40 : s[k].toNat = 40
  · exact one_paren s k w hs h (.inl h40)
  by_cases h41 : s[k].toNat = 41
  · exact one_paren s k w hs h (.inr h41)
  cases hl : isLetter s[k].toNat
  · cases hd : isDigit s[k].toNat
    · exact one_none s k w hs h h40 h41 hl hd
    · exact one_num s k w hs ht h h40 h41 hl hd
  · exact one_word s k w hs h h40 h41 hl

theorem oneL_kind : ∀ (r : List UInt8), (oneL r).2.2 = true → (oneL r).1 ≠ 0
  | [], h => by simp [oneL] at h
  | c :: r, h => by
    simp only [oneL] at *
    by_cases h1 : c.toNat = 40
    · simp [h1]
    by_cases h2 : c.toNat = 41
    · simp [h2]
    by_cases h3 : isLetter c.toNat = true
    · simp [h1, h2, h3]
    by_cases h4 : isDigit c.toNat = true
    · simp [h1, h2, h3, h4]
    · simp [h1, h2, h3, h4] at h

theorem one_yes (s : ByteArray) (a : Int) (k : Nat) (w : World) (kind : Nat) (text : List UInt8) (ha : a = k) (hs : s.size ≤ maxLen) (ht : Tab w) (h : k < s.size) (hq : oneL (s.data.toList.drop k) = (kind, text, true)) :
    Calls Tryd.prog 30 #[.string s, .int .i64 a] w fun e w' => e = .returned (.tuple #[.agg #[.int .i64 kind, .string ⟨text.toArray⟩, .int .i64 k], .bool true]) ∧ Below w.heap.size w w' := by
  subst ha
  refine (one_any s k w hs ht h).mono ?_
  rintro e w' ⟨rfl, hb⟩
  refine ⟨?_, hb⟩
  have := oneL_kind (s.data.toList.drop k) (by rw [hq])
  rw [hq] at *
  simp only [oneV, tokV]
  rw [if_neg this]
theorem one_no (s : ByteArray) (a : Int) (k : Nat) (w : World) (kind : Nat) (text : List UInt8) (ha : a = k) (hs : s.size ≤ maxLen) (ht : Tab w) (h : k < s.size) (hq : oneL (s.data.toList.drop k) = (kind, text, false)) :
    Calls Tryd.prog 30 #[.string s, .int .i64 a] w fun e w' => (∃ (x : Int) (y : ByteArray) (z : Int), e = .returned (.tuple #[.agg #[.int .i64 x, .string y, .int .i64 z], .bool false])) ∧ Below w.heap.size w w' := by
  subst ha
  refine (one_any s k w hs ht h).mono ?_
  rintro e w' ⟨rfl, hb⟩
  rw [hq]
  exact ⟨⟨_, _, _, rfl⟩, hb⟩

theorem has_lit {w : World} {e : TypeId} {size : Nat} (w0 : World) (cs : Array Value) (b n : Nat) (hb : b = w0.heap.size) (hm : n ≤ maxLen) (hs : cs.size = n * size) (hw : w = w0.alloc (.cells cs e) := by rfl) :
    Has w size (.slice (some ⟨b, 0, none⟩) n n) n cs.toList := by
  subst hb
  subst hw
  exact Has.of_owns (World.ownsRow_lit (base := 0) w0 cs n (Nat.zero_le _) hm hs)

theorem blank_int (s : ByteArray) (a : Int) (w : World) (hs : s.size ≤ maxLen) (h0 : 0 ≤ a) (h1 : a ≤ s.size) :
    Calls Tryd.prog 29 #[.string s, .int .i64 a] w fun e w' => e = .returned (.int .i64 (blankAt s.data.toList a.toNat)) ∧ w = w' := by
  obtain ⟨n, rfl⟩ := Int.eq_ofNat_of_zero_le h0
  exact blank_any s n w hs (by omega)

/-- what lex.Lex answers -/
def LexOut (s : ByteArray) (w : World) (e : Ending) (w' : World) : Prop :=
  (∃ v toks, lexL s.data.toList = (toks, none) ∧ e = .returned (.tuple #[v, .int .i64 0, .int .i64 0]) ∧ w'.ownsRow w.heap.size 51 3 v toks.length (toksCells toks) ∧ Below w.heap.size w w') ∨
  (∃ toks pos, lexL s.data.toList = (toks, some pos) ∧ e = .returned (.tuple #[.slice none 0 0, .int .i64 2, .int .i64 (pos : Nat)]) ∧ Below w.heap.size w w')

set_option maxHeartbeats 1000000 in
theorem lex_any (s : ByteArray) (w : World) (hs : s.size ≤ 1099511627776) (ht : Tab w) :
    Calls Tryd.prog 17 #[.string s] w (LexOut s w) := by
  have HT := Lib.hid ht
  clear ht
  have hsm : s.size ≤ 9223372036854775807 := by omega
  have HSM : Hid (s.size ≤ maxLen) := Lib.hid (by unfold maxLen; omega)
  go_enter Tryd.func17, Tryd.ntmps17
  go_wp2_with fail
  refine (blank_int s _ w HSM.out (by omega) (by omega)).mono ?_
  rintro e w1 ⟨rfl, rfl⟩
  go_wp2_with fail
  go_loopw [5, 6] (fun v i wr => ∃ (done : List Tok) (k : Nat), i = .int .i64 k ∧ LexSt s done k ∧ wr.ownsRow w.heap.size 51 3 v done.length (toksCells done) ∧ Below w.heap.size w wr) (fun _ i _ => s.size - (intOf i).toNat)
  case atStart => exact ⟨[], _, rfl, LexSt.start s, World.ownsRow_nil _ _ _ _, Below.refl _ _⟩
  case round =>
    obtain ⟨done, k, rfl, hst, hown, hbel⟩ := hrel
    have hk := hst.1
    have hdl := hst.2.1
    have HT2 := Lib.hid (HT.out.below hbel)
    by_cases hlt : k < s.size
    · go_wp2_with fail
      cases hq : oneL (s.data.toList.drop k) with
      | mk kind r2 =>
      obtain ⟨text, ok⟩ := r2
      cases ok
      · have hbad := hst.bad hlt (by rw [hq])
        have HB := Lib.hid hbad
        clear hbad
        refine (one_no s _ k wr kind text rfl HSM.out HT2.out hlt hq).mono ?_
        rintro e w2 ⟨⟨a, b, c, rfl⟩, hb2⟩
        clear hq
        go_wp2
        go_ret3
        exact Or.inr ⟨done, k, HB.out, rfl, ((hbel.trans (hb2.mono hbel.size)).alloc (Nat.le_trans hbel.size hb2.size) _)⟩
      · have hnx := hst.next hlt (by rw [hq])
        rw [hq] at hnx
        obtain ⟨hn1, hn2, hn3⟩ := hnx
        refine (one_yes s _ k wr kind text rfl HSM.out HT2.out hlt hq).mono ?_
        rintro e w2 ⟨rfl, hb2⟩
        clear hq
        obtain ⟨i0, hi, hi0, hi1, hi2⟩ := info_parts Tryd.infoTok
        go_wp2_with (at_builtin; go_must (refine wpList_append_has rfl (.tmp 24) (.tmp 26) 44 rfl w.heap.size 51 i0 _ 3 32 Tryd.underlying44 hi hi0 hi1 hi2 rfl (by decide) _ done.length (toksCells done) rfl ?own _ 1 (tokCells ⟨kind, text, k⟩) rfl ?has ?one ?c3 ?c4 ?c5 ?_))
        case own => exact ((ownsRow_below hown hb2).alloc _).alloc _
        case has => exact has_lit (e := 51) (w2.alloc _) _ _ 1 (by simp) (by decide) rfl
        case one => exact toksCells_one [⟨kind, text, k⟩] 
        case c3 => unfold maxLen; omega
        case c4 => omega
        case c5 => have := hbel.size; have := hb2.size; simp; omega
        intro v' w3 hown3 hgrow3
        have hszw : w.heap.size ≤ w2.heap.size := Nat.le_trans hbel.size hb2.size
        have hne : ∀ g, u5.ownBlock = some g → w.heap.size ≤ g ∧ g < w2.heap.size := fun g hg => (ownsRow_below hown hb2).lt g hg
        have hcell1 : w3.cell? ⟨w2.heap.size, 1, none⟩ = some (.string ⟨text.toArray⟩) :=
          hgrow3.cell (by simp [go_sem]) (fun hc => by have := (hne _ hc.symm).2; simp at this)
        have hb3 : Below w.heap.size w w3 := (((hbel.trans (hb2.mono hbel.size)).alloc hszw _).alloc (by simp; omega) _).grown hgrow3 (by simp; omega) (fun g hg => (hne g hg).1)
        have hown4 : w3.ownsRow w.heap.size 51 3 v' (done ++ [(⟨kind, text, k⟩ : Tok)]).length (toksCells (done ++ [⟨kind, text, k⟩])) := by
          rw [toksCells_append, List.length_append]; exact hown3
        clear hown3 hgrow3 hne hown hb2 hi hi0 hi1 hi2
        go_wp2_with fail
        refine (blank_int s _ w3 HSM.out (by omega) (by omega)).mono ?_
        rintro e w4 ⟨rfl, rfl⟩
        have he : ((k : Int) + (text.length : Int)).toNat = k + text.length := by omega
        rw [he]
        go_wp2_with fail
        go_roundw
        case rel => exact ⟨done ++ [⟨kind, text, k⟩], _, rfl, hn3, hown4, hb3⟩
        case measure => simp [intOf]; omega
    · go_wp2
      go_ret3
      have hk2 : k = s.size := by omega
      subst hk2
      exact Or.inl ⟨_, done, hst.done, rfl, hown, hbel⟩
end Go.Proofs.YtfklmcmoackepaaDoor
