/- The walk of transhiplaw02.LexBehind. -/
import Derived.Test.YtjfdagacohkboaaDoorLaw02f
import Derived.Laws.StructEq
namespace Go.Proofs.YtjfdagacohkboaaDoor
open Go.RowKit

theorem thenX_bad {x y : List Tok × Option Nat} {l : List Tok} {p : Nat} (h : x = (l, some p)) : thenX x y = (l, some p) := by subst h; rfl
theorem thenX_ok {x y : List Tok × Option Nat} {l : List Tok} (h : x = (l, none)) : thenX x y = (l ++ y.1, y.2) := by subst h; rfl

theorem joined_toList (a b : ByteArray) : (a ++ ByteArray.mk #[10] ++ b).data.toList = a.data.toList ++ 10 :: b.data.toList := by simp
theorem joined_size (a b : ByteArray) : (a ++ ByteArray.mk #[10] ++ b).size = a.size + 1 + b.size := by simp; rfl

/-- the slice value of a row -/
theorem Has.slice {w : World} {size : Nat} {v : Value} {n : Nat} {xs : List Value} (h : Has w size v n xs) : ∃ a c, v = .slice a n c := by
  rcases h.2 with ⟨rfl, h0⟩ | ⟨b, o, c, rfl, _⟩
  · exact ⟨none, 0, by rw [h0]⟩
  · exact ⟨_, _, rfl⟩
theorem Has.open {w : World} {size : Nat} {a : Option Addr} {n c : Nat} {xs : List Value} (h : Has w size (.slice a n c) n xs) (hn : 0 < n) :
    ∃ b o, a = some ⟨b, o, none⟩ ∧ b < w.heap.size ∧ ∀ j, j < n * size → w.cell? ⟨b, o + j, none⟩ = xs[j]? := by
  rcases h.2 with ⟨_, h0⟩ | ⟨b, o, c', hv, _, hb, hc⟩
  · omega
  · obtain ⟨rfl, _, rfl⟩ := Value.slice.inj hv
    exact ⟨b, o, rfl, hb, hc⟩

theorem lexR_fault : ∀ (f : Nat) (r : List UInt8) (pos p : Nat), (lexR f r pos).2 = some p → p ≤ pos + r.length
  | 0, r, pos, p, h => by simp [lexR] at h
  | f + 1, r, pos, p, h => by
    unfold lexR at h
    by_cases hr : r = []
    · rw [if_pos hr] at h; cases h
    · rw [if_neg hr] at h
      by_cases ho : (oneL r).2.2 = true
      · rw [if_pos ho] at h
        have h1 := oneL_le r hr
        have h2 := skip_le false (r.drop (oneL r).2.1.length)
        have h3 := lexR_fault f _ _ p h
        rw [List.length_drop] at h2 h3
        omega
      · rw [if_neg ho] at h
        obtain rfl := Option.some.inj h
        omega
theorem lexL_fault {l : List UInt8} {toks : List Tok} {p : Nat} (h : lexL l = (toks, some p)) : p ≤ l.length := by
  have h2 := skip_le false l
  have h3 := lexR_fault (l.length + 1) (skip false l) (0 + (l.length - (skip false l).length)) p (by
    have : lexL l = lexR (l.length + 1) (skip false l) (0 + (l.length - (skip false l).length)) := rfl
    rw [← this, h])
  omega

set_option maxHeartbeats 1000000 in
set_option maxRecDepth 100000 in
theorem lexBehind_a (a b : ByteArray) (w : World) (ht : Tab w) (ha : a.size ≤ 2000) (hb : b.size ≤ 2000) (la : List Tok) (p : Nat) (hqa : lexL a.data.toList = (la, some p)) :
    Calls Tryd.prog 11 #[.string a, .string b] w fun e w' => e = .returned (.bool true) ∧ Below w.heap.size w w' := by
  have HT := Lib.hid ht
  clear ht
  have ha2 : ¬ (2000 : Int) < (a.size : Int) := by omega
  have hb2' : ¬ (2000 : Int) < (b.size : Int) := by omega
  have HLA : Hid (a.size ≤ 1099511627776) := Lib.hid (by omega)
  have HLJ : Hid ((a ++ ByteArray.mk #[10] ++ b).size ≤ 1099511627776) := Lib.hid (by rw [joined_size]; omega)
  have HJ : Hid (lexL (a ++ ByteArray.mk #[10] ++ b).data.toList = (la, some p)) := Lib.hid (by
    rw [joined_toList, lexL_line, thenX_bad hqa])
  have HQ := Lib.hid hqa
  clear hqa
  go_enter Tryd.func11, Tryd.ntmps11
  go_wp2_with fail
  refine (lex_bad a w la p HQ.out HLA.out HT.out).mono ?_
  rintro e w1 ⟨rfl, hb1⟩
  have HT1 := Lib.hid (HT.out.below hb1)
  go_wp2_with fail
  refine (lex_bad _ w1 la p HJ.out HLJ.out HT1.out).mono ?_
  rintro e w2 ⟨rfl, hb2⟩
  have HT2 := Lib.hid (HT1.out.below hb2)
  go_wp2_with fail
  refine (wakes02 w2 HT2.out).mono ?_
  rintro e w3 ⟨rfl, hb3⟩
  go_wp2
  go_ret
  have b2 := hb1.trans (hb2.mono hb1.size)
  exact ⟨rfl, b2.trans (hb3.mono b2.size)⟩

set_option maxHeartbeats 1000000 in
set_option maxRecDepth 100000 in
theorem lexBehind_b (a b : ByteArray) (w : World) (ht : Tab w) (ha : a.size ≤ 2000) (hb : b.size ≤ 2000) (la lb : List Tok) (p : Nat) (hqa : lexL a.data.toList = (la, none)) (hqb : lexL b.data.toList = (lb, some p)) :
    Calls Tryd.prog 11 #[.string a, .string b] w fun e w' => e = .returned (.bool true) ∧ Below w.heap.size w w' := by
  have HT := Lib.hid ht
  clear ht
  have ha2 : ¬ (2000 : Int) < (a.size : Int) := by omega
  have hb2' : ¬ (2000 : Int) < (b.size : Int) := by omega
  have hp := lexL_fault hqb
  have hbl : b.data.toList.length = b.size := by simp
  have hal : a.data.toList.length = a.size := by simp
  rw [hbl] at hp
  clear hbl
  have hp2 : p ≤ 2000 := by omega
  have HLA : Hid (a.size ≤ 1099511627776) := Lib.hid (by omega)
  have HLB : Hid (b.size ≤ 1099511627776) := Lib.hid (by omega)
  have HLJ : Hid ((a ++ ByteArray.mk #[10] ++ b).size ≤ 1099511627776) := Lib.hid (by rw [joined_size]; omega)
  have HJ : Hid (lexL (a ++ ByteArray.mk #[10] ++ b).data.toList = (la ++ lb.map (shiftT (a.size + 1)), some (p + (a.size + 1)))) := Lib.hid (by
    rw [joined_toList, lexL_line, thenX_ok hqa, hqb, hal]; rfl)
  clear hal
  have HQA := Lib.hid hqa
  have HQB := Lib.hid hqb
  clear hqa hqb
  have hpe : (((p + (a.size + 1) : Nat) : Int) == (a.size : Int) + 1 + (p : Int)) = true := by rw [beq_iff_eq]; omega
  go_enter Tryd.func11, Tryd.ntmps11
  go_wp2_with fail
  refine (lex_ok a w la HQA.out HLA.out HT.out).mono ?_
  rintro e w1 ⟨v1, rfl, hown1, hb1⟩
  have HT1 := Lib.hid (HT.out.below hb1)
  clear hown1
  go_wp2_with fail
  refine (lex_bad _ w1 _ _ HJ.out HLJ.out HT1.out).mono ?_
  rintro e w2 ⟨rfl, hb2⟩
  have HT2 := Lib.hid (HT1.out.below hb2)
  go_wp2_with fail
  refine (lex_bad b w2 lb p HQB.out HLB.out HT2.out).mono ?_
  rintro e w3 ⟨rfl, hb3⟩
  have HT3 := Lib.hid (HT2.out.below hb3)
  generalize p + (a.size + 1) = q at *
  go_wp2_with fail
  refine (wakes02 w3 HT3.out).mono ?_
  rintro e w4 ⟨rfl, hb4⟩
  go_wp2
  go_ret
  have b2 := hb1.trans (hb2.mono hb1.size)
  have b3 := b2.trans (hb3.mono b2.size)
  exact ⟨rfl, b3.trans (hb4.mono b3.size)⟩
end Go.Proofs.YtjfdagacohkboaaDoor
