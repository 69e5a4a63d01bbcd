/- TopReflect's own run. -/
import Derived.Test.YtgedmmmgkfehjaaGreatDoorYf3
namespace Go.Proofs.YtgedmmmgkfehjaaGreatDoor
theorem run_f : runK (β := Bool) (EV 0 200) [ef6, ef14, ef28, ef25, ef17, ef16] 400 6 [.sym 0, .bool false] .nil 0 (fun v _ _ => match v with | .bool b => some b | _ => none) = some true := by kernel_rfl
theorem top_f : ∃ h' n', CallOK (EV 0 200) 6 [.sym 0, .bool false] .nil 0 (.bool true) h' n' := by
  obtain ⟨v, h', n', h1, h2⟩ := runK_ok (β := Bool) (env_ok 0 200) (tab := [ef6, ef14, ef28, ef25, ef17, ef16]) (fun e he => by
    simp only [List.mem_cons, List.not_mem_nil, or_false] at he
    rcases he with rfl | rfl | rfl | rfl | rfl | rfl
    · exact ok_ef6
    · exact ok_ef14
    · exact ok_ef28
    · exact ok_ef25
    · exact ok_ef17
    · exact ok_ef16) 400 _ _ _ _ _ _ run_f
  cases v <;> simp only [reduceCtorEq, Option.some.injEq] at h1
  subst h1
  exact ⟨h', n', h2⟩
end Go.Proofs.YtgedmmmgkfehjaaGreatDoor
