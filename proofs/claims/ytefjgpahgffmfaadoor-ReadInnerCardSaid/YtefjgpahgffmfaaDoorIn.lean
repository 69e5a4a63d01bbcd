/- Names of binders by turns: on lists. -/
import Derived.Test.YtefjgpahgffmfaaDoorRm
namespace Go.Proofs.YtefjgpahgffmfaaDoor
open Go.RowKit

/-- the names a, b, c by turns -/
def turnN (x : Nat) : List UInt8 := [[97], [98], [99]].getD (x % 3) []
def headN : Nat → List UInt8
  | 0 => []
  | x + 1 => headN x ++ [40, 76, 97, 109, 32] ++ turnN x ++ [32, 40, 115, 111, 114, 116, 32, 48, 41, 32]
def backN : Nat → List UInt8
  | 0 => []
  | x + 1 => backN x ++ [41]
def innerT (n k : Nat) : List UInt8 := headN n ++ turnN k ++ backN n
/-- how many binders are passed -/
def passN (k : Nat) : Nat → Nat
  | 0 => 0
  | x + 1 => if x % 3 = k % 3 then 0 else passN k x + 1
def lamT : Nat → Nat → TT
  | 0, w => .node 2 w 0 0 []
  | m + 1, w => .node 14 0 0 0 [.node 1 0 0 0 [], lamT m w]
def innerChk (n k : Nat) : Bool := match readM (innerT n k) [[122], [99]] 0 0 with
  | .ok t _ => sameT t (lamT n (passN k n))
  | .bad _ => false
set_option maxHeartbeats 8000000 in
theorem innerChk_all : ∀ n : Nat, n < 21 → ∀ k : Nat, k < 3 → k < n → innerChk n k = true := by decide +kernel
theorem passN_mod (k : Nat) : ∀ x, passN (k % 3) x = passN k x
  | 0 => rfl
  | x + 1 => by simp only [passN, Nat.mod_mod, passN_mod k x]
theorem innerT_mod (n k : Nat) : innerT n (k % 3) = innerT n k := by simp only [innerT, turnN, Nat.mod_mod]
theorem inner_read {n k : Nat} (hn : n < 21) (hk : k < n) : ∃ q, readM (innerT n k) [[122], [99]] 0 0 = .ok (lamT n (passN k n)) q := by
  have h := innerChk_all n hn (k % 3) (by omega) (by omega)
  unfold innerChk at h
  rw [innerT_mod, passN_mod] at h
  cases hr : readM (innerT n k) [[122], [99]] 0 0 with
  | bad q => rw [hr] at h; cases h
  | ok t q =>
    rw [hr] at h
    dsimp only at h
    exact ⟨q, by rw [(sameT_iff _ _).1 h]⟩
theorem lone_read : readM (ByteArray.mk #[99]).data.toList [[99], [122], [99], [121]] 0 0 = .ok (.node 2 1 0 0 []) 1 := by kernel_rfl
theorem headN_len : ∀ x, (headN x).length = 16 * x
  | 0 => rfl
  | x + 1 => by
    have : (turnN x).length = 1 := by
      unfold turnN
      rcases (show x % 3 = 0 ∨ x % 3 = 1 ∨ x % 3 = 2 by omega) with h | h | h <;> rw [h] <;> rfl
    simp only [headN, List.length_append, List.length_cons, List.length_nil, headN_len x, this]
    omega
theorem backN_len : ∀ x, (backN x).length = x
  | 0 => rfl
  | x + 1 => by simp only [backN, List.length_append, List.length_cons, List.length_nil, backN_len x]
theorem turnN_len (x : Nat) : (turnN x).length = 1 := by
  unfold turnN
  rcases (show x % 3 = 0 ∨ x % 3 = 1 ∨ x % 3 = 2 by omega) with h | h | h <;> rw [h] <;> rfl
theorem headN_app (x : Nat) : (ByteArray.mk (headN x).toArray) ++ (ByteArray.mk #[40, 76, 97, 109, 32]) ++ (ByteArray.mk (turnN x).toArray) ++ (ByteArray.mk #[32, 40, 115, 111, 114, 116, 32, 48, 41, 32]) = ⟨(headN (x + 1)).toArray⟩ := by
  have h1 := str_append (headN x) [40, 76, 97, 109, 32]
  have h2 := str_append (headN x ++ [40, 76, 97, 109, 32]) (turnN x)
  have h3 := str_append (headN x ++ [40, 76, 97, 109, 32] ++ turnN x) [32, 40, 115, 111, 114, 116, 32, 48, 41, 32]
  rw [← h2, ← h1] at h3
  exact h3
theorem backN_app (x : Nat) : (ByteArray.mk (backN x).toArray) ++ (ByteArray.mk #[41]) = ⟨(backN (x + 1)).toArray⟩ := str_append (backN x) [41]
theorem innerT_app (n k : Nat) : (ByteArray.mk (headN n).toArray) ++ (ByteArray.mk (turnN k).toArray) ++ (ByteArray.mk (backN n).toArray) = ⟨(innerT n k).toArray⟩ := by
  have h1 := str_append (headN n) (turnN k)
  have h2 := str_append (headN n ++ turnN k) (backN n)
  rw [← h1] at h2
  exact h2
end Go.Proofs.YtefjgpahgffmfaaDoor
