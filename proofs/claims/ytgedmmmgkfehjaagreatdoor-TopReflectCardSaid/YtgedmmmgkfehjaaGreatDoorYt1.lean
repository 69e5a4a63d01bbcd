/- Calls of TopReflect: each by the kernel. -/
import Derived.Test.YtgedmmmgkfehjaaGreatDoorYt0
namespace Go.Proofs.YtgedmmmgkfehjaaGreatDoor
theorem ok_et15 : EntOK (EV 0 200) et15 :=
  entRun_ok (env_ok 0 200) (tab := []) (d := 400) (fun e he => by cases he) (by kernel_rfl)
theorem ok_et16 : EntOK (EV 0 200) et16 :=
  entRun_ok (env_ok 0 200) (tab := [et15]) (d := 400) (fun e he => by
    simp only [List.mem_cons, List.not_mem_nil, or_false] at he
    rcases he with rfl
    · exact ok_et15) (by kernel_rfl)
theorem ok_et17 : EntOK (EV 0 200) et17 :=
  entRun_ok (env_ok 0 200) (tab := []) (d := 400) (fun e he => by cases he) (by kernel_rfl)
theorem ok_et18 : EntOK (EV 0 200) et18 :=
  entRun_ok (env_ok 0 200) (tab := [et16, et17]) (d := 400) (fun e he => by
    simp only [List.mem_cons, List.not_mem_nil, or_false] at he
    rcases he with rfl | rfl
    · exact ok_et16
    · exact ok_et17) (by kernel_rfl)
theorem ok_et19 : EntOK (EV 0 200) et19 :=
  entRun_ok (env_ok 0 200) (tab := []) (d := 400) (fun e he => by cases he) (by kernel_rfl)
theorem ok_et20 : EntOK (EV 0 200) et20 :=
  entRun_ok (env_ok 0 200) (tab := [et19]) (d := 400) (fun e he => by
    simp only [List.mem_cons, List.not_mem_nil, or_false] at he
    rcases he with rfl
    · exact ok_et19) (by kernel_rfl)
end Go.Proofs.YtgedmmmgkfehjaaGreatDoor
