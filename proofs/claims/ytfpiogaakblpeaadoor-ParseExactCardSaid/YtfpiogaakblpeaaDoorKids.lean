/- Walks of deriv.Kids, transhipref11.Kids, numbered. -/
import Derived.Test.YtfpiogaakblpeaaDoorWeigh
namespace Go.Proofs.YtfpiogaakblpeaaDoor
open Go.RowKit

def kidsTab : List Nat := [0, 0, 2, 2, 2, 2, 3, 1, 1, 2, 1, 2, 1, 1, 2, 2, 1, 2, 3, 3, 1, 1, 2, 2, 2, 2, 3, 4]
def kidsI (r : Int) : Int := if r < 1 ∨ 28 < r then -1 else (kidsTab.getD (r - 1).toNat 0 : Nat)

theorem rules {r : Int} (h : 1 ≤ r) (h2 : r ≤ 28) : ∃ n : Nat, n < 28 ∧ r = (n : Int) + 1 := ⟨(r - 1).toNat, by omega, by omega⟩

set_option maxRecDepth 100000 in
set_option maxHeartbeats 4000000 in
theorem kids_out (r : Int) (w : World) (h : r < 1 ∨ 28 < r) : Calls Tryd.prog 53 #[.int .i64 r] w fun e w' => e = .returned (.int .i64 (kidsI r)) ∧ w = w' := by
  have hk : kidsI r = -1 := by simp [kidsI, h]
  have HK := Lib.hid hk
  have H1 : (r == 1) = false := by simp; omega
  have H2 : (r == 2) = false := by simp; omega
  have H3 : (r == 3) = false := by simp; omega
  have H4 : (r == 4) = false := by simp; omega
  have H5 : (r == 5) = false := by simp; omega
  have H6 : (r == 6) = false := by simp; omega
  have H7 : (r == 7) = false := by simp; omega
  have H8 : (r == 8) = false := by simp; omega
  have H9 : (r == 9) = false := by simp; omega
  have H10 : (r == 10) = false := by simp; omega
  have H11 : (r == 11) = false := by simp; omega
  have H12 : (r == 12) = false := by simp; omega
  have H13 : (r == 13) = false := by simp; omega
  have H14 : (r == 14) = false := by simp; omega
  have H15 : (r == 15) = false := by simp; omega
  have H16 : (r == 16) = false := by simp; omega
  have H17 : (r == 17) = false := by simp; omega
  have H18 : (r == 18) = false := by simp; omega
  have H19 : (r == 19) = false := by simp; omega
  have H20 : (r == 20) = false := by simp; omega
  have H21 : (r == 21) = false := by simp; omega
  have H22 : (r == 22) = false := by simp; omega
  have H23 : (r == 23) = false := by simp; omega
  have H24 : (r == 24) = false := by simp; omega
  have H25 : (r == 25) = false := by simp; omega
  have H26 : (r == 26) = false := by simp; omega
  have H27 : (r == 27) = false := by simp; omega
  have H28 : (r == 28) = false := by simp; omega
  clear hk h
  go_enter Tryd.func53, Tryd.ntmps53
  go_wp2
  go_ret
  exact ⟨by rw [HK.out]; rfl, rfl⟩

set_option maxRecDepth 100000 in
set_option maxHeartbeats 4000000 in
theorem kids_in (n : Nat) (w : World) (h : n < 28) : Calls Tryd.prog 53 #[.int .i64 ((n : Int) + 1)] w fun e w' => e = .returned (.int .i64 (kidsTab.getD n 0 : Nat)) ∧ w = w' := by
  match n, h with
  | 0, _ | 1, _ | 2, _ | 3, _ | 4, _ | 5, _ | 6, _ | 7, _ | 8, _ | 9, _ | 10, _ | 11, _ | 12, _ | 13, _ | 14, _ | 15, _ | 16, _ | 17, _ | 18, _ | 19, _ | 20, _ | 21, _ | 22, _ | 23, _ | 24, _ | 25, _ | 26, _ | 27, _ =>
    go_enter Tryd.func53, Tryd.ntmps53
    go_wp2
    go_ret
    exact ⟨rfl, rfl⟩
  | k + 28, h => exact absurd h (by omega)

theorem kids_any (r : Int) (w : World) : Calls Tryd.prog 53 #[.int .i64 r] w fun e w' => e = .returned (.int .i64 (kidsI r)) ∧ w = w' := by
  by_cases h : r < 1 ∨ 28 < r
  · exact kids_out r w h
  · obtain ⟨n, hn, rfl⟩ := rules (by omega) (by omega : r ≤ 28)
    have hk : kidsI ((n : Int) + 1) = (kidsTab.getD n 0 : Nat) := by
      unfold kidsI
      rw [if_neg h, show ((n : Int) + 1 - 1).toNat = n by omega]
    rw [hk]
    exact kids_in n w hn
end Go.Proofs.YtfpiogaakblpeaaDoor
