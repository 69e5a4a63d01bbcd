/- Calls of TopReflect: each by the kernel. -/
import Derived.Test.YtgedmmmgkfehjaaGreatDoorYt2
namespace Go.Proofs.YtgedmmmgkfehjaaGreatDoor
theorem ok_et26 : EntOK (EV 0 200) et26 :=
  entRun_ok (env_ok 0 200) (tab := []) (d := 400) (fun e he => by cases he) (by kernel_rfl)
theorem ok_et27 : EntOK (EV 0 200) et27 :=
  entRun_ok (env_ok 0 200) (tab := []) (d := 400) (fun e he => by cases he) (by kernel_rfl)
theorem ok_et28 : EntOK (EV 0 200) et28 :=
  entRun_ok (env_ok 0 200) (tab := []) (d := 400) (fun e he => by cases he) (by kernel_rfl)
theorem ok_et29 : EntOK (EV 0 200) et29 :=
  entRun_ok (env_ok 0 200) (tab := []) (d := 400) (fun e he => by cases he) (by kernel_rfl)
theorem ok_et30 : EntOK (EV 0 200) et30 :=
  entRun_ok (env_ok 0 200) (tab := [et29]) (d := 400) (fun e he => by
    simp only [List.mem_cons, List.not_mem_nil, or_false] at he
    rcases he with rfl
    · exact ok_et29) (by kernel_rfl)
theorem ok_et31 : EntOK (EV 0 200) et31 :=
  entRun_ok (env_ok 0 200) (tab := []) (d := 400) (fun e he => by cases he) (by kernel_rfl)
theorem ok_et32 : EntOK (EV 0 200) et32 :=
  entRun_ok (env_ok 0 200) (tab := [et30, et31]) (d := 400) (fun e he => by
    simp only [List.mem_cons, List.not_mem_nil, or_false] at he
    rcases he with rfl | rfl
    · exact ok_et30
    · exact ok_et31) (by kernel_rfl)
theorem ok_et33 : EntOK (EV 0 200) et33 :=
  entRun_ok (env_ok 0 200) (tab := []) (d := 400) (fun e he => by cases he) (by kernel_rfl)
end Go.Proofs.YtgedmmmgkfehjaaGreatDoor
