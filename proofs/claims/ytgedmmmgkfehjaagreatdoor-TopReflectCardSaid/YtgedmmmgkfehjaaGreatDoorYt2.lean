/- Calls of TopReflect: each by the kernel. -/
import Derived.Test.YtgedmmmgkfehjaaGreatDoorYt1
namespace Go.Proofs.YtgedmmmgkfehjaaGreatDoor
theorem ok_et21 : EntOK (EV 0 200) et21 :=
  entRun_ok (env_ok 0 200) (tab := []) (d := 400) (fun e he => by cases he) (by kernel_rfl)
theorem ok_et22 : EntOK (EV 0 200) et22 :=
  entRun_ok (env_ok 0 200) (tab := []) (d := 400) (fun e he => by cases he) (by kernel_rfl)
theorem ok_et23 : EntOK (EV 0 200) et23 :=
  entRun_ok (env_ok 0 200) (tab := []) (d := 400) (fun e he => by cases he) (by kernel_rfl)
theorem ok_et24 : EntOK (EV 0 200) et24 :=
  entRun_ok (env_ok 0 200) (tab := [et23]) (d := 400) (fun e he => by
    simp only [List.mem_cons, List.not_mem_nil, or_false] at he
    rcases he with rfl
    · exact ok_et23) (by kernel_rfl)
theorem ok_et25 : EntOK (EV 0 200) et25 :=
  entRun_ok (env_ok 0 200) (tab := [et22, et24]) (d := 400) (fun e he => by
    simp only [List.mem_cons, List.not_mem_nil, or_false] at he
    rcases he with rfl | rfl
    · exact ok_et22
    · exact ok_et24) (by kernel_rfl)
end Go.Proofs.YtgedmmmgkfehjaaGreatDoor
