/- Walks of transhipref11.Kids, numbered. -/
import Derived.Test.YtfpiogaakblpeaaDoorWordW
namespace Go.Proofs.YtfpiogaakblpeaaDoor
open Go.RowKit

def kidsBlock : Array Value := #[.int .i64 0, .int .i64 0, .int .i64 2, .int .i64 2, .int .i64 2, .int .i64 2, .int .i64 3, .int .i64 1, .int .i64 1, .int .i64 2, .int .i64 1, .int .i64 2, .int .i64 1, .int .i64 1, .int .i64 2, .int .i64 2, .int .i64 1, .int .i64 2, .int .i64 3, .int .i64 3, .int .i64 1, .int .i64 1, .int .i64 2, .int .i64 2, .int .i64 2, .int .i64 2, .int .i64 3, .int .i64 4]
theorem kids_cell (w : World) (t : TypeId) (n : Nat) (h : n < 28) : (w.alloc (.cells kidsBlock t)).cell? ⟨w.heap.size, n, none⟩ = some (.int .i64 (kidsTab.getD n 0 : Nat)) := by
  have e : (w.alloc (.cells kidsBlock t)).cell? ⟨w.heap.size, n, none⟩ = kidsBlock[n]? := by simp [go_sem]
  rw [e]
  match n, h with
  | 0, _ | 1, _ | 2, _ | 3, _ | 4, _ | 5, _ | 6, _ | 7, _ | 8, _ | 9, _ | 10, _ | 11, _ | 12, _ | 13, _ | 14, _ | 15, _ | 16, _ | 17, _ | 18, _ | 19, _ | 20, _ | 21, _ | 22, _ | 23, _ | 24, _ | 25, _ | 26, _ | 27, _ => rfl
  | k + 28, h => exact absurd h (by omega)

set_option maxRecDepth 100000 in
set_option maxHeartbeats 1000000 in
theorem rkids_any (r : Int) (w : World) (hr : In64 r) : Calls Tryd.prog 36 #[.int .i64 r] w fun e w' => e = .returned (.int .i64 (kidsI r)) ∧ Below w.heap.size w w' := by
  obtain ⟨hr1, hr2⟩ := hr
  have HC : Hid (∀ n, n < 28 → (w.alloc (.cells kidsBlock 3)).cell? ⟨w.heap.size, n, none⟩ = some (.int .i64 (kidsTab.getD n 0 : Nat))) := Lib.hid (fun n h => kids_cell w _ n h)
  by_cases h1 : 1 ≤ r ∧ r ≤ 28
  · obtain ⟨n, hn, rfl⟩ := rules h1.1 h1.2
    have HK : Hid (kidsI ((n : Int) + 1) = (kidsTab.getD n 0 : Nat)) := Lib.hid (by
      unfold kidsI
      rw [if_neg (by omega), show ((n : Int) + 1 - 1).toNat = n by omega])
    have hcell := HC.out n hn
    unfold kidsBlock at hcell
    have e1 : ¬ ((n : Int) + 1 < 1) := by omega
    have e2 : ¬ (28 < (n : Int) + 1) := by omega
    clear h1
    generalize kidsTab.getD n 0 = q at hcell HK
    go_enter Tryd.func36, Tryd.ntmps36
    go_wp2
    go_ret
    exact ⟨by rw [HK.out]; rfl, below_alloc _ _⟩
  · have HK : Hid (kidsI r = -1) := Lib.hid (by unfold kidsI; rw [if_pos (by omega)])
    by_cases h2 : r < 1
    · clear h1
      go_enter Tryd.func36, Tryd.ntmps36
      go_wp2
      go_ret
      exact ⟨by rw [HK.out]; rfl, below_alloc _ _⟩
    · have h3 : 28 < r := by omega
      clear h1
      go_enter Tryd.func36, Tryd.ntmps36
      go_wp2
      go_ret
      exact ⟨by rw [HK.out]; rfl, below_alloc _ _⟩

def numbered (r : Int) : Bool := r == 1 || r == 2
set_option maxHeartbeats 1000000 in
theorem numbered_any (r : Int) (w : World) : Calls Tryd.prog 37 #[.int .i64 r] w fun e w' => e = .returned (.bool (numbered r)) ∧ w = w' := by
  have HN : Hid (∀ a b, (r == 1) = a → (r == 2) = b → numbered r = (a || b)) := Lib.hid (fun a b h1 h2 => by simp [numbered, ← h1, ← h2])
  cases H1 : r == 1
  · cases H2 : r == 2
    · have HV := Lib.hid (HN.out _ _ H1 H2)
      go_enter Tryd.func37, Tryd.ntmps37
      go_wp2
      go_ret
      exact ⟨by rw [HV.out]; rfl, rfl⟩
    · have HV := Lib.hid (HN.out _ _ H1 H2)
      go_enter Tryd.func37, Tryd.ntmps37
      go_wp2
      go_ret
      exact ⟨by rw [HV.out]; rfl, rfl⟩
  · have HV : Hid (numbered r = true) := Lib.hid (by simp [numbered, H1])
    go_enter Tryd.func37, Tryd.ntmps37
    go_wp2
    go_ret
    exact ⟨by rw [HV.out]; rfl, rfl⟩

theorem rkids_held {n : Nat} {W0 : World} (r : Int) (w : World) (hr : In64 r) (h : Below n W0 w) (hn : n ≤ w.heap.size) : Calls Tryd.prog 36 #[.int .i64 r] w fun e w' => e = .returned (.int .i64 (kidsI r)) ∧ Below n W0 w' ∧ n ≤ w'.heap.size := by
  refine (rkids_any r w hr).mono ?_
  rintro e w' ⟨rfl, hb⟩
  exact ⟨rfl, h.trans (hb.mono hn), Nat.le_trans hn hb.size⟩
end Go.Proofs.YtfpiogaakblpeaaDoor
