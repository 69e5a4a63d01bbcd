/- Walks of the rules' words: deriv.words, Word, Rule; transhipref11.Words, Word, Rule. -/
import Derived.Test.YtfpiogaakblpeaaDoorShowM
namespace Go.Proofs.YtfpiogaakblpeaaDoor
open Go.RowKit

def wordsBlock : Array Value := #[.string { data := #[115, 111, 114, 116] }, .string { data := #[118, 97, 114] }, .string { data := #[112, 105] }, .string { data := #[108, 97, 109] }, .string { data := #[97, 112, 112] }, .string { data := #[115, 105, 103] }, .string { data := #[112, 97, 105, 114] }, .string { data := #[102, 115, 116] }, .string { data := #[115, 110, 100] }, .string { data := #[101, 113] }, .string { data := #[114, 101, 102, 108] }, .string { data := #[99, 111, 110, 118] }, .string { data := #[115, 97, 109, 101] }, .string { data := #[115, 121, 109] }, .string { data := #[116, 114, 97, 110, 115] }, .string { data := #[99, 111, 110, 118, 115] }, .string { data := #[114, 101, 102, 108, 101, 99, 116] }, .string { data := #[98, 101, 116, 97] }, .string { data := #[102, 105, 114, 115, 116] }, .string { data := #[115, 101, 99, 111, 110, 100] }, .string { data := #[101, 116, 97] }, .string { data := #[115, 117, 114, 106] }, .string { data := #[114, 101, 112, 108] }, .string { data := #[105, 114, 114] }, .string { data := #[120, 112, 105] }, .string { data := #[120, 115, 105, 103] }, .string { data := #[120, 108, 97, 109] }, .string { data := #[120, 112, 97, 105, 114] }]
theorem words_cell (w : World) (t : TypeId) (n : Nat) (h : n < 28) : (w.alloc (.cells wordsBlock t)).cell? ⟨w.heap.size, n, none⟩ = some (.string ⟨(ruleWords.getD n []).toArray⟩) := by
  have e : (w.alloc (.cells wordsBlock t)).cell? ⟨w.heap.size, n, none⟩ = wordsBlock[n]? := by simp [go_sem]
  rw [e]
  match n, h with
  | 0, _ | 1, _ | 2, _ | 3, _ | 4, _ | 5, _ | 6, _ | 7, _ | 8, _ | 9, _ | 10, _ | 11, _ | 12, _ | 13, _ | 14, _ | 15, _ | 16, _ | 17, _ | 18, _ | 19, _ | 20, _ | 21, _ | 22, _ | 23, _ | 24, _ | 25, _ | 26, _ | 27, _ => rfl
  | k + 28, h => exact absurd h (by omega)

set_option maxRecDepth 100000 in
set_option maxHeartbeats 2000000 in
theorem words_any (w : World) : Calls Tryd.prog 66 #[] w fun e w' => e = .returned (.slice (some ⟨w.heap.size, 0, none⟩) 28 28) ∧ w' = w.alloc (.cells wordsBlock 9) := by
  go_enter Tryd.func66, Tryd.ntmps66
  go_wp2
  go_ret
  exact ⟨rfl, rfl⟩

set_option maxRecDepth 100000 in
set_option maxHeartbeats 2000000 in
theorem rwords_any (w : World) : Calls Tryd.prog 68 #[] w fun e w' => e = .returned (.slice (some ⟨w.heap.size, 0, none⟩) 28 28) ∧ w' = w.alloc (.cells wordsBlock 9) := by
  go_enter Tryd.func68, Tryd.ntmps68
  go_wp2
  go_ret
  exact ⟨rfl, rfl⟩

theorem wordI_at {n : Nat} (h : n < 28) : wordI ((n : Int) + 1) = ruleWords.getD n [] := by
  unfold wordI
  rw [if_neg (by omega), show ((n : Int) + 1 - 1).toNat = n by omega]

theorem idx_step {s : List UInt8} {k : Nat} (h : k ≤ ruleWords.idxOf s) (hk : k < 28) : if ruleWords.getD k [] = s then ruleI s = k + 1 else k + 1 ≤ ruleWords.idxOf s := by
  have hl : k < ruleWords.length := hk
  split
  · rename_i he
    rw [List.getD_eq_getElem?_getD, List.getElem?_eq_getElem hl, Option.getD_some] at he
    have h2 : ruleWords.idxOf s ≤ k := by
      rcases Nat.lt_or_ge k (ruleWords.idxOf s) with h3 | h3
      · have := List.not_of_lt_findIdx (p := fun x => x == s) (xs := ruleWords) (i := k) h3
        simp [he] at this
      · exact h3
    have : ruleWords.idxOf s = k := by omega
    unfold ruleI
    rw [if_pos (by omega), this]
  · rename_i he
    rcases Nat.lt_or_ge k (ruleWords.idxOf s) with h3 | h3
    · exact h3
    · exfalso
      have h4 : ruleWords.idxOf s = k := by omega
      apply he
      rw [List.getD_eq_getElem?_getD, List.getElem?_eq_getElem hl, Option.getD_some]
      have := List.getElem_idxOf (x := s) (xs := ruleWords) (by rw [h4]; exact hl)
      simpa [h4] using this
theorem idx_end {s : List UInt8} (h : 28 ≤ ruleWords.idxOf s) : ruleI s = 0 := by
  unfold ruleI; rw [if_neg (by omega)]
end Go.Proofs.YtfpiogaakblpeaaDoor
