/- Walks of transhiplaw02.LexExact and LexNames. -/
import Derived.Test.YtjfdagacohkboaaDoorLaw02
namespace Go.Proofs.YtjfdagacohkboaaDoor
open Go.RowKit

theorem rlex_ok (s : ByteArray) (w : World) (toks : List Tok) (hl : lexL s.data.toList = (toks, none)) (hs : s.size ≤ 1099511627776) :
    Calls Tryd.prog 18 #[.string s] w fun e w' => ∃ v, e = .returned (.tuple #[v, .int .i64 (-1)]) ∧ w'.ownsRow w.heap.size 50 3 v toks.length (toksCells toks) ∧ Below w.heap.size w w' := by
  refine (rlex_any s w hs).mono ?_
  rintro e w' ⟨v, toks', fault, h1, h2, h3, h4⟩
  rw [hl] at h1
  obtain ⟨rfl, rfl⟩ := Prod.mk.inj h1
  exact ⟨v, h2, h3, h4⟩
theorem rlex_bad (s : ByteArray) (w : World) (toks : List Tok) (pos : Nat) (hl : lexL s.data.toList = (toks, some pos)) (hs : s.size ≤ 1099511627776) :
    Calls Tryd.prog 18 #[.string s] w fun e w' => ∃ v, e = .returned (.tuple #[v, .int .i64 pos]) ∧ w'.ownsRow w.heap.size 50 3 v toks.length (toksCells toks) ∧ Below w.heap.size w w' := by
  refine (rlex_any s w hs).mono ?_
  rintro e w' ⟨v, toks', fault, h1, h2, h3, h4⟩
  rw [hl] at h1
  obtain ⟨rfl, rfl⟩ := Prod.mk.inj h1
  exact ⟨v, h2, h3, h4⟩

/-- so many tokens at the most -/
theorem lexR_length : ∀ (f : Nat) (r : List UInt8) (pos : Nat), (lexR f r pos).1.length ≤ r.length
  | 0, r, pos => by simp [lexR]
  | f + 1, r, pos => by
    unfold lexR
    split
    · simp
    · rename_i hr
      split
      · rename_i h
        have h1 := oneL_len r h
        have h2 := skip_le false (r.drop (oneL r).2.1.length)
        rw [List.length_drop] at h2
        have h3 := lexR_length f (skip false (r.drop (oneL r).2.1.length)) (pos + (oneL r).2.1.length + ((r.drop (oneL r).2.1.length).length - (skip false (r.drop (oneL r).2.1.length)).length))
        have h4 : 0 < r.length := List.length_pos_iff.2 hr
        simp only [List.length_cons]
        omega
      · simp
theorem lexL_length (l : List UInt8) : (lexL l).1.length ≤ l.length := by
  have h1 := lexR_length (l.length + 1) (skip false l) (0 + (l.length - (skip false l).length))
  have h2 := skip_le false l
  unfold lexL lexS
  omega

set_option maxHeartbeats 1000000 in
theorem lexExact_walk (s : ByteArray) (w : World) (hs : s.size ≤ maxLen) (ht : Tab w) :
    Calls Tryd.prog 7 #[.string s] w fun e w' => e = .returned (.bool true) ∧ Below w.heap.size w w' := by
  have HT := Lib.hid ht
  clear ht
  by_cases h2000 : 2000 < s.size
  · have h2 : (2000 : Int) < (s.size : Int) := by omega
    clear hs
    go_enter Tryd.func7, Tryd.ntmps7
    go_wp2
    go_ret
    exact ⟨rfl, Below.refl _ _⟩
  have h2 : ¬ (2000 : Int) < (s.size : Int) := by omega
  have hsb : s.size ≤ 1099511627776 := by omega
  clear hs
  have hlen := lexL_length s.data.toList
  have hsl : s.data.toList.length = s.size := by simp
  rw [hsl] at hlen
  clear hsl
  cases hq : lexL s.data.toList with
  | mk toks fault =>
  rw [hq] at hlen
  cases fault with
  | none =>
    go_enter Tryd.func7, Tryd.ntmps7
    go_wp2_with fail
    refine (lex_ok s w toks hq hsb HT.out).mono ?_
    rintro e w1 ⟨v1, rfl, hown1, hb1⟩
    have HT1 := Lib.hid (HT.out.below hb1)
    go_wp2_with fail
    refine (rlex_ok s w1 toks hq hsb).mono ?_
    rintro e w2 ⟨v2, rfl, hown2, hb2⟩
    have HT2 := Lib.hid (HT1.out.below hb2)
    go_wp2_with fail
    refine (same_any toks v1 v2 w2 ((Has.of_owns hown1).below hb2) (Has.of_owns hown2) (by have h3 : toks.length ≤ s.size := hlen; omega)).mono ?_
    rintro e w3 ⟨rfl, hb3⟩
    have HT3 := Lib.hid (HT2.out.below hb3)
    go_wp2_with fail
    refine (wakes02 w3 HT3.out).mono ?_
    rintro e w4 ⟨rfl, hb4⟩
    go_wp2
    go_ret
    have b2 := hb1.trans (hb2.mono hb1.size)
    have b3 := b2.trans (hb3.mono b2.size)
    exact ⟨rfl, b3.trans (hb4.mono b3.size)⟩
  | some p =>
    go_enter Tryd.func7, Tryd.ntmps7
    go_wp2_with fail
    refine (lex_bad s w toks p hq hsb HT.out).mono ?_
    rintro e w1 ⟨rfl, hb1⟩
    have HT1 := Lib.hid (HT.out.below hb1)
    go_wp2_with fail
    refine (rlex_bad s w1 toks p hq hsb).mono ?_
    rintro e w2 ⟨v2, rfl, hown2, hb2⟩
    have HT2 := Lib.hid (HT1.out.below hb2)
    clear hown2
    go_wp2_with fail
    refine (wakes02 w2 HT2.out).mono ?_
    rintro e w4 ⟨rfl, hb4⟩
    go_wp2
    go_ret
    have b2 := hb1.trans (hb2.mono hb1.size)
    exact ⟨rfl, b2.trans (hb4.mono b2.size)⟩
end Go.Proofs.YtjfdagacohkboaaDoor
