/- Walks of transhipref09.marked, plain, write, Write. -/
import Derived.Test.YtfklmcmoackepaaDoorSr
import Derived.Test.YtfklmcmoackepaaDoorRtf
import Derived.Test.YtfklmcmoackepaaDoorRefPut
import Derived.Deep.DeepCutAuto
import Derived.Deep.CutBlock
import Derived.Deep.RegionWith
namespace Go.Proofs.YtfklmcmoackepaaDoor
open Go.RowKit

def rmarkedLBlock : Array Value := #[.string ⟨#[115, 111, 114, 116]⟩, .string ⟨#[]⟩, .string ⟨#[112, 105]⟩, .string ⟨#[108, 97, 109]⟩, .string ⟨#[97, 112, 112]⟩, .string ⟨#[115, 105, 103]⟩, .string ⟨#[112, 97, 105, 114]⟩, .string ⟨#[102, 115, 116]⟩, .string ⟨#[115, 110, 100]⟩, .string ⟨#[101, 113]⟩, .string ⟨#[114, 101, 102, 108]⟩, .string ⟨#[116, 114]⟩]
theorem rmarkedL_cell (w : World) (t : TypeId) (m : Nat) (h : m < 12) : (w.alloc (.cells rmarkedLBlock t)).cell? ⟨w.heap.size, m, none⟩ = some (.string ⟨(markWords.getD (m + 0) []).toArray⟩) := by
  have e : (w.alloc (.cells rmarkedLBlock t)).cell? ⟨w.heap.size, m, none⟩ = rmarkedLBlock[m]? := by simp [go_sem]
  rw [e]
  match m, h with
  | 0, _ | 1, _ | 2, _ | 3, _ | 4, _ | 5, _ | 6, _ | 7, _ | 8, _ | 9, _ | 10, _ | 11, _ => rfl
  | k + 12, h => exact absurd h (by omega)

set_option maxRecDepth 100000 in
set_option maxHeartbeats 8000000 in
theorem rmarkedL_any (w : World) : Calls Tryd.prog 50 #[] w fun e w' => e = .returned (.slice (some ⟨w.heap.size, 0, none⟩) 12 12) ∧ Below w.heap.size w w' ∧ ∀ m, m < 12 → w'.cell? ⟨w.heap.size, m, none⟩ = some (.string ⟨(markWords.getD (m + 0) []).toArray⟩) := by
  have HC := Lib.hid fun m hm => rmarkedL_cell w 9 m hm
  go_enter Tryd.func50, Tryd.ntmps50
  go_wp2
  go_ret
  exact ⟨rfl, below_alloc _ _, HC.out⟩

def rplainLBlock : Array Value := #[.string ⟨#[80, 105]⟩, .string ⟨#[76, 97, 109]⟩, .string ⟨#[65, 112, 112]⟩, .string ⟨#[83, 105, 103]⟩, .string ⟨#[80, 97, 105, 114]⟩, .string ⟨#[70, 115, 116]⟩, .string ⟨#[83, 110, 100]⟩, .string ⟨#[69, 113]⟩, .string ⟨#[82, 101, 102, 108]⟩, .string ⟨#[74]⟩, .string ⟨#[117, 115, 101]⟩]
theorem rplainL_cell (w : World) (t : TypeId) (m : Nat) (h : m < 11) : (w.alloc (.cells rplainLBlock t)).cell? ⟨w.heap.size, m, none⟩ = some (.string ⟨(markWords.getD (m + 12) []).toArray⟩) := by
  have e : (w.alloc (.cells rplainLBlock t)).cell? ⟨w.heap.size, m, none⟩ = rplainLBlock[m]? := by simp [go_sem]
  rw [e]
  match m, h with
  | 0, _ | 1, _ | 2, _ | 3, _ | 4, _ | 5, _ | 6, _ | 7, _ | 8, _ | 9, _ | 10, _ => rfl
  | k + 11, h => exact absurd h (by omega)

set_option maxRecDepth 100000 in
set_option maxHeartbeats 8000000 in
theorem rplainL_any (w : World) : Calls Tryd.prog 51 #[] w fun e w' => e = .returned (.slice (some ⟨w.heap.size, 0, none⟩) 11 11) ∧ Below w.heap.size w w' ∧ ∀ m, m < 11 → w'.cell? ⟨w.heap.size, m, none⟩ = some (.string ⟨(markWords.getD (m + 12) []).toArray⟩) := by
  have HC := Lib.hid fun m hm => rplainL_cell w 9 m hm
  go_enter Tryd.func51, Tryd.ntmps51
  go_wp2
  go_ret
  exact ⟨rfl, below_alloc _ _, HC.out⟩


end Go.Proofs.YtfklmcmoackepaaDoor
