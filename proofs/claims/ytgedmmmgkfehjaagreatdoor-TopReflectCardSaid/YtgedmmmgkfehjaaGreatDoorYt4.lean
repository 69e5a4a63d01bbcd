/- Calls of TopReflect: each by the kernel. -/
import Derived.Test.YtgedmmmgkfehjaaGreatDoorYt3
namespace Go.Proofs.YtgedmmmgkfehjaaGreatDoor
theorem ok_et34 : EntOK (EV 0 200) et34 :=
  entRun_ok (env_ok 0 200) (tab := [et27, et28, et32, et33, et21, et25, et26]) (d := 400) (fun e he => by
    simp only [List.mem_cons, List.not_mem_nil, or_false] at he
    rcases he with rfl | rfl | rfl | rfl | rfl | rfl | rfl
    · exact ok_et27
    · exact ok_et28
    · exact ok_et32
    · exact ok_et33
    · exact ok_et21
    · exact ok_et25
    · exact ok_et26) (by kernel_rfl)
theorem ok_et35 : EntOK (EV 0 200) et35 :=
  entRun_ok (env_ok 0 200) (tab := []) (d := 400) (fun e he => by cases he) (by kernel_rfl)
theorem ok_et36 : EntOK (EV 0 200) et36 :=
  entRun_ok (env_ok 0 200) (tab := []) (d := 400) (fun e he => by cases he) (by kernel_rfl)
theorem ok_et37 : EntOK (EV 0 200) et37 :=
  entRun_ok (env_ok 0 200) (tab := [et35, et36]) (d := 400) (fun e he => by
    simp only [List.mem_cons, List.not_mem_nil, or_false] at he
    rcases he with rfl | rfl
    · exact ok_et35
    · exact ok_et36) (by kernel_rfl)
end Go.Proofs.YtgedmmmgkfehjaaGreatDoor
