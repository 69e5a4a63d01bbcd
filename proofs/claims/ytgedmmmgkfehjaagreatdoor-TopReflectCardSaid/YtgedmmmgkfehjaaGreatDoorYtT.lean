/- TopReflect's own run. -/
import Derived.Test.YtgedmmmgkfehjaaGreatDoorYt4
namespace Go.Proofs.YtgedmmmgkfehjaaGreatDoor
theorem run_t : runK (β := Bool) (EV 0 200) [et6, et14, et18, et37, et34, et20] 400 6 [.sym 0, .bool true] .nil 0 (fun v _ _ => match v with | .bool b => some b | _ => none) = some true := by kernel_rfl
theorem top_t : ∃ h' n', CallOK (EV 0 200) 6 [.sym 0, .bool true] .nil 0 (.bool true) h' n' := by
  obtain ⟨v, h', n', h1, h2⟩ := runK_ok (β := Bool) (env_ok 0 200) (tab := [et6, et14, et18, et37, et34, et20]) (fun e he => by
    simp only [List.mem_cons, List.not_mem_nil, or_false] at he
    rcases he with rfl | rfl | rfl | rfl | rfl | rfl
    · exact ok_et6
    · exact ok_et14
    · exact ok_et18
    · exact ok_et37
    · exact ok_et34
    · exact ok_et20) 400 _ _ _ _ _ _ run_t
  cases v <;> simp only [reduceCtorEq, Option.some.injEq] at h1
  subst h1
  exact ⟨h', n', h2⟩
end Go.Proofs.YtgedmmmgkfehjaaGreatDoor
