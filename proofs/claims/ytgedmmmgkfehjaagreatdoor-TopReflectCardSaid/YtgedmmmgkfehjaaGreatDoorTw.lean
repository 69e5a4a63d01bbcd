/- Walk of transhiptop.TopReflect: true at every number, either way; nothing that was there is turned. -/
import Derived.Test.YtgedmmmgkfehjaaGreatDoorYtT
import Derived.Test.YtgedmmmgkfehjaaGreatDoorYfT
import Derived.ProofKit
namespace Go.Proofs.YtgedmmmgkfehjaaGreatDoor
open Go.RowKit

/-- no labels yet -/
def den0 (w : World) (i : Int) : Den := { at_ := fun _ => none, cap := fun _ => 0, sig := i, base := w.heap.size }
theorem rel0 (w : World) (i : Int) : Rel (den0 w i) (fun _ => none) 0 w := ⟨Nat.le_refl _, fun l b h => (by cases h), fun l o b h => (by cases h), fun l l' b o o' h => (by cases h)⟩

theorem reflect_out (x : Int) (b : Bool) (w : World) (h : x < 0 ∨ 200 < x) :
    Calls Tryz.prog 6 #[.int .i64 x, .bool b] w fun e w' => e = .returned (.bool true) ∧ Below w.heap.size w w' := by
  by_cases h1 : x < 0
  · go_enter Tryz.func6, Tryz.ntmps6
    go_wp2
    go_ret
    exact ⟨rfl, .refl _ _⟩
  · have h2 : 200 < x := by omega
    go_enter Tryz.func6, Tryz.ntmps6
    go_wp2
    go_ret
    exact ⟨rfl, .refl _ _⟩

theorem reflect_in (x : Int) (b : Bool) (w : World) (h0 : 0 ≤ x) (h1 : x ≤ 200) (h : ∃ h' n', CallOK (EV 0 200) 6 [.sym 0, .bool b] .nil 0 (.bool true) h' n') :
    Calls Tryz.prog 6 #[.int .i64 x, .bool b] w fun e w' => e = .returned (.bool true) ∧ Below w.heap.size w w' := by
  obtain ⟨h', n', c⟩ := h
  have hv : VRs (den0 w x) [.sym 0, .bool b] #[.int .i64 x, .bool b] := by
    refine ⟨rfl, fun i y u hy hu => ?_⟩
    match i with
    | 0 => simp at hy hu; subst hy hu; have := VR.sym (ρ := den0 w x) 0; simpa [den0] using this
    | 1 => simp at hy hu; subst hy hu; exact .bool b
    | i + 2 => simp at hy
  rcases c (den0 w x) w _ ⟨by decide, h0, h1, by decide⟩ (rel0 w x) hv with ⟨_, g⟩ | ⟨u, g, _⟩
  · refine g.mono fun e w' he => ?_
    cases e with
    | returned u =>
      obtain ⟨ρ', p, q⟩ := he
      cases q
      exact ⟨rfl, p.os, p.tape, p.output, p.size, fun k hk => p.frame k hk fun l o hl => by cases hl⟩
    | panicked ch => exact he.elim
    | outgrown => exact he.elim
  · rw [run_enter Tryz.func6 rfl (by kernel_rfl)] at g
    cases g

theorem reflect_walk (x : Int) (b : Bool) (w : World) :
    Calls Tryz.prog 6 #[.int .i64 x, .bool b] w fun e w' => e = .returned (.bool true) ∧ Below w.heap.size w w' := by
  by_cases h0 : x < 0
  · exact reflect_out x b w (.inl h0)
  by_cases h1 : 200 < x
  · exact reflect_out x b w (.inr h1)
  cases b with
  | true => exact reflect_in x true w (by omega) (by omega) top_t
  | false => exact reflect_in x false w (by omega) (by omega) top_f
end Go.Proofs.YtgedmmmgkfehjaaGreatDoor
