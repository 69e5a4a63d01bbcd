/- Spans of tokens: the walk of transhiplaw02.LexSpans. -/
import Derived.Test.YtjfdagacohkboaaDoorLaw02c
namespace Go.Proofs.YtjfdagacohkboaaDoor
open Go.RowKit

/-- blanks and remarks alone? (note: inside a remark) -/
def nothingS : Bool → List UInt8 → Bool
  | _, [] => true
  | note, c :: r => if c.toNat = 10 then nothingS false r else if c.toNat = 59 then nothingS true r else if note = false ∧ c.toNat ≠ 32 ∧ c.toNat ≠ 9 then false else nothingS note r

theorem nothing_skip : ∀ (b : Bool) (l : List UInt8), nothingS b (l.take (l.length - (skip b l).length)) = true
  | b, [] => by cases b <;> rfl
  | false, c :: r => by
    have h1 := skip_le false r
    have h2 := skip_le true r
    simp only [skip]
    by_cases hb : c.toNat = 32 ∨ c.toNat = 9 ∨ c.toNat = 10
    · rw [if_pos hb, show (c :: r).length - (skip false r).length = (r.length - (skip false r).length) + 1 by simp; omega, List.take_succ_cons]
      unfold nothingS
      by_cases h10 : c.toNat = 10
      · rw [if_pos h10]; exact nothing_skip false r
      · rw [if_neg h10, if_neg (by omega), if_neg (by omega)]; exact nothing_skip false r
    · rw [if_neg hb]
      by_cases h59 : c.toNat = 59
      · rw [if_pos h59, show (c :: r).length - (skip true r).length = (r.length - (skip true r).length) + 1 by simp; omega, List.take_succ_cons]
        unfold nothingS
        rw [if_neg (by omega), if_pos h59]; exact nothing_skip true r
      · rw [if_neg h59]; simp [nothingS]
  | true, c :: r => by
    have h1 := skip_le false r
    have h2 := skip_le true r
    simp only [skip]
    by_cases h10 : c.toNat = 10
    · rw [if_pos h10, show (c :: r).length - (skip false r).length = (r.length - (skip false r).length) + 1 by simp; omega, List.take_succ_cons]
      unfold nothingS
      rw [if_pos h10]; exact nothing_skip false r
    · rw [if_neg h10, show (c :: r).length - (skip true r).length = (r.length - (skip true r).length) + 1 by simp; omega, List.take_succ_cons]
      unfold nothingS
      rw [if_neg h10]
      by_cases h59 : c.toNat = 59
      · rw [if_pos h59]; exact nothing_skip true r
      · rw [if_neg h59, if_neg (by simp)]; exact nothing_skip true r

theorem oneL_take : ∀ (r : List UInt8), (oneL r).2.2 = true → (oneL r).2.1 = r.take (oneL r).2.1.length
  | [], h => by simp [oneL] at h
  | c :: r, h => by
    simp only [oneL] at *
    by_cases h1 : c.toNat = 40
    · have : c = 40 := UInt8.toNat_inj.1 h1
      simp [h1]; exact this.symm
    by_cases h2 : c.toNat = 41
    · have : c = 41 := UInt8.toNat_inj.1 h2
      simp [h1, h2]; exact this.symm
    by_cases h3 : isLetter c.toNat = true
    · simp only [if_neg h1, if_neg h2, if_pos h3, List.length_cons, List.take_succ_cons, take_takeWhile]
    by_cases h4 : isDigit c.toNat = true
    · simp only [if_neg h1, if_neg h2, if_neg h3, if_pos h4, List.length_cons, List.take_succ_cons, take_takeWhile]
    · simp [h1, h2, h3, h4] at h

/-- tokens one behind the other, from a place on -/
def Spans (l : List UInt8) : Nat → List Tok → Prop
  | pos, [] => pos ≤ l.length ∧ blankAt l pos = l.length
  | pos, t :: ts => pos ≤ l.length ∧ t.pos = blankAt l pos ∧ t.pos + t.text.length ≤ l.length ∧ t.text = (l.drop t.pos).take t.text.length ∧ 0 < t.text.length ∧ Spans l (t.pos + t.text.length) ts

theorem spans_of : ∀ (f : Nat) (l : List UInt8) (pos : Nat) (toks : List Tok), pos ≤ l.length → l.length < f + pos → lexS f (l.drop pos) pos = (toks, none) → Spans l pos toks
  | 0, _, _, _, h, hf, _ => by omega
  | f + 1, l, pos, toks, h, hf, hx => by
    have hb := blankAt_le l pos h
    rw [lexS_at _ _ _ h] at hx
    by_cases hr : l.drop (blankAt l pos) = []
    · rw [hr, lexR_nil] at hx
      obtain ⟨rfl, _⟩ := Prod.mk.inj hx
      refine ⟨h, ?_⟩
      have := congrArg List.length hr
      rw [List.length_drop] at this
      simp at this
      omega
    · have h2 := oneL_le _ hr
      have h1 := oneL_len (l.drop (blankAt l pos))
      have h5 := oneL_take (l.drop (blankAt l pos))
      have h6 := lexR_bad (f := f + 1) (pos := blankAt l pos) hr (by rw [List.length_drop]; omega)
      have h7 := lexR_good (f := f + 1) (pos := blankAt l pos) hr (by rw [List.length_drop]; omega)
      rw [List.length_drop] at h2
      cases hq : oneL (l.drop (blankAt l pos)) with
      | mk kind r2 =>
      obtain ⟨text, ok⟩ := r2
      rw [hq] at h1 h2 h5 h6 h7
      dsimp only at h1 h2 h5 h6 h7
      cases ok
      · rw [h6 rfl] at hx
        cases (Prod.mk.inj hx).2
      · rw [h7 rfl, List.drop_drop] at hx
        have h1 := h1 rfl
        obtain ⟨rfl, h4⟩ := Prod.mk.inj hx
        refine ⟨h, rfl, by dsimp only; omega, h5 rfl, h1, ?_⟩
        -- less fuel serves
        refine spans_of f l _ _ (by dsimp only; omega) (by dsimp only; omega) ?_
        have hfu : ∀ p, p ≤ l.length → blankAt l pos < p → lexS (f + 1) (l.drop p) p = lexS f (l.drop p) p := by
          intro p hp hlt
          rw [lexS_at _ _ _ hp, lexS_at _ _ _ hp]
          have := blankAt_le l p hp
          exact lexR_fuel _ _ _ _ (by rw [List.length_drop]; omega) (by rw [List.length_drop]; omega)
        dsimp only
        rw [← hfu (blankAt l pos + text.length) (by omega) (by omega)]
        exact Prod.ext rfl h4

theorem spans_lexL (l : List UInt8) (toks : List Tok) (h : lexL l = (toks, none)) : Spans l 0 toks :=
  spans_of (l.length + 1) l 0 toks (Nat.zero_le _) (by omega) (by rw [List.drop_zero]; exact h)

set_option maxHeartbeats 1000000 in
theorem nothing_any (s : ByteArray) (w : World) (hs : s.size ≤ maxLen) (hn : nothingS false s.data.toList = true) :
    Calls Tryd.prog 23 #[.string s] w fun e w' => e = .returned (.bool true) ∧ w = w' := by
  unfold maxLen at hs
  have HN := Lib.hid hn
  clear hn
  go_enter Tryd.func23, Tryd.ntmps23
  go_wp2_with fail
  go_loop [3, 4] (fun b i => ∃ (k : Nat) (note : Bool), k ≤ s.size ∧ i = .int .i64 k ∧ b = .bool note ∧ nothingS note (s.data.toList.drop k) = true) (fun _ i => s.size - (intOf i).toNat)
  case atStart => exact ⟨0, false, Nat.zero_le _, rfl, rfl, HN.out⟩
  case round =>
    obtain ⟨k, note, hk, rfl, rfl, hrest⟩ := hrel
    by_cases hlt : k < s.size
    · rw [drop_cons s k hlt] at hrest
      unfold nothingS at hrest
      by_cases h10 : s[k].toNat = 10
      · rw [if_pos h10] at hrest
        have b10 : ((s[k].toNat : Int) == 10) = true := by simp; omega
        have HR := Lib.hid hrest
        clear hrest h10
        go_wp2
        go_round
        case rel => exact ⟨k + 1, false, by omega, by go_num, rfl, HR.out⟩
        case measure => simp [intOf]; omega
      rw [if_neg h10] at hrest
      have b10 : ((s[k].toNat : Int) == 10) = false := by simp; omega
      by_cases h59 : s[k].toNat = 59
      · rw [if_pos h59] at hrest
        have b59 : ((s[k].toNat : Int) == 59) = true := by simp; omega
        have HR := Lib.hid hrest
        clear hrest h59
        go_wp2
        go_round
        case rel => exact ⟨k + 1, true, by omega, by go_num, rfl, HR.out⟩
        case measure => simp [intOf]; omega
      rw [if_neg h59] at hrest
      have b59 : ((s[k].toNat : Int) == 59) = false := by simp; omega
      have hno : ¬ (note = false ∧ s[k].toNat ≠ 32 ∧ s[k].toNat ≠ 9) := by
        intro hc
        rw [if_pos hc] at hrest
        cases hrest
      rw [if_neg hno] at hrest
      have HR := Lib.hid hrest
      clear hrest
      cases note
      · have hno2 : s[k].toNat = 32 ∨ s[k].toNat = 9 := by
          by_cases h32 : s[k].toNat = 32
          · exact .inl h32
          · by_cases h9 : s[k].toNat = 9
            · exact .inr h9
            · exact absurd ⟨rfl, h32, h9⟩ hno
        have hcc : ((s[k].toNat : Int) != 32) = false ∨ (((s[k].toNat : Int) != 32) = true ∧ ((s[k].toNat : Int) != 9) = false) := by
          simp; omega
        clear hno hno2
        rcases hcc with b32 | ⟨b32, b9⟩
        all_goals
          go_wp2
          go_round
          case rel => exact ⟨k + 1, false, by omega, by go_num, rfl, HR.out⟩
          case measure => simp [intOf]; omega
      · clear hno
        go_wp2
        go_round
        case rel => exact ⟨k + 1, true, by omega, by go_num, rfl, HR.out⟩
        case measure => simp [intOf]; omega
    · go_wp2
      go_ret
      exact ⟨rfl, rfl⟩
end Go.Proofs.YtjfdagacohkboaaDoor
