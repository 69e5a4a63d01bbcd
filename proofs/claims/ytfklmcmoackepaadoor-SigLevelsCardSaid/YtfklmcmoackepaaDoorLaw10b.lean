/- Walks of transhiplaw10.wakes, WriteNames. Walks of transhiplaw10.WriteExact, WriteUnlike. -/
import Derived.Test.YtfklmcmoackepaaDoorSr
import Derived.Test.YtfklmcmoackepaaDoorRw
namespace Go.Proofs.YtfklmcmoackepaaDoor
open Go.RowKit

theorem repT_two {w : World} (t : TypeId) {k i j n k' i' j' n' : Int} {l l' : List TT} {v v' : Value} (h : RepT w l v) (h' : RepT w l' v') (h4 : In4 k i j n) (h4' : In4 k' i' j' n') :
    RepT (w.alloc (.cells #[.int .i64 k, .int .i64 i, .int .i64 j, .int .i64 n, v, .int .i64 k', .int .i64 i', .int .i64 j', .int .i64 n', v'] t)) [.node k i j n l, .node k' i' j' n' l'] (.slice (some ⟨w.heap.size, 0, none⟩) 2 2) := by
  have hh := new_heap w #[.int .i64 k, .int .i64 i, .int .i64 j, .int .i64 n, v, .int .i64 k', .int .i64 i', .int .i64 j', .int .i64 n', v'] t
  have hc := fun x => Lib.cell_of_heap hh x
  refine RepT.row w.heap.size 0 2 [.node k i j n l, .node k' i' j' n' l'] (fun x => if x = 0 then v else v') (by simp [maxLen]) (by simp) (fun x k1 i1 j1 n1 l1 hx => ?_) (fun x k1 i1 j1 n1 l1 hx => ?_)
  · match x, hx with
    | 0, hx =>
      simp at hx
      obtain ⟨rfl, rfl, rfl, rfl, rfl⟩ := hx
      exact ⟨hc 0, hc 1, hc 2, hc 3, hc 4, h4⟩
    | 1, hx =>
      simp at hx
      obtain ⟨rfl, rfl, rfl, rfl, rfl⟩ := hx
      exact ⟨hc 5, hc 6, hc 7, hc 8, hc 9, h4'⟩
    | x + 2, hx => simp at hx
  · match x, hx with
    | 0, hx =>
      simp at hx
      obtain ⟨rfl, rfl, rfl, rfl, rfl⟩ := hx
      exact h.kept (below_alloc _ _)
    | 1, hx =>
      simp at hx
      obtain ⟨rfl, rfl, rfl, rfl, rfl⟩ := hx
      exact h'.kept (below_alloc _ _)
    | x + 2, hx => simp at hx
theorem in4_small {k i j n : Int} (h : -1000 ≤ k ∧ k ≤ 1000 ∧ -1000 ≤ i ∧ i ≤ 1000 ∧ -1000 ≤ j ∧ j ≤ 1000 ∧ -1000 ≤ n ∧ n ≤ 1000) : In4 k i j n := by
  obtain ⟨a, b, c, d, e, f, g, x⟩ := h
  exact ⟨⟨by omega, by omega⟩, ⟨by omega, by omega⟩, ⟨by omega, by omega⟩, ⟨by omega, by omega⟩⟩
def sampleKs : List TT := [.node 1 4 0 0 [], .node 15 0 0 0 [.node 2 0 0 0 [], .node 2 1 0 0 []]]
theorem sample1 : writeW (.node 14 0 0 0 sampleKs) 1 = [40, 76, 97, 109, 32, 118, 49, 32, 40, 115, 111, 114, 116, 32, 52, 41, 32, 40, 65, 112, 112, 32, 118, 49, 32, 118, 48, 41, 41] := by decide +kernel
theorem sample0 : writeW (.node 14 0 0 0 sampleKs) 0 = [] := by decide +kernel
theorem sample_size : sizeT (.node 14 0 0 0 sampleKs) ≤ 1000000 := by decide +kernel
theorem names2 : textRow (namesL 2) = [.string ⟨#[118, 48]⟩, .string ⟨#[118, 49]⟩] := by
  have : namesL 2 = [[118, 48], [118, 49]] := by decide +kernel
  rw [this]; rfl


end Go.Proofs.YtfklmcmoackepaaDoor

namespace Go.Proofs.YtfklmcmoackepaaDoor
open Go.RowKit


theorem writeW_eq {a b : TT} {m : Int} (ha : rightT a 0 = true) (hb : rightT b 0 = true) (fa : decide (m < freeOf a) = false) (fb : decide (m < freeOf b) = false) (hm : decide (1000000 < m) = false) : (writeW a m == writeW b m) = sameT a b := by
  have f1 : ¬ m < freeOf a := by simpa using fa
  have f2 : ¬ m < freeOf b := by simpa using fb
  have f3 : m ≤ 1000000 := by simpa using hm
  have h0 : 0 ≤ m := by
    have := freeR_in a 0 ha
    rw [freeOf_R ha] at f1
    omega
  rw [writeW_in h0 f3 ha f1, writeW_in h0 f3 hb f2, Bool.eq_iff_iff, sameT_iff]
  simp only [beq_iff_eq]
  constructor
  · intro h; exact writeT_inj ha hb h
  · intro h; rw [h]

end Go.Proofs.YtfklmcmoackepaaDoor
