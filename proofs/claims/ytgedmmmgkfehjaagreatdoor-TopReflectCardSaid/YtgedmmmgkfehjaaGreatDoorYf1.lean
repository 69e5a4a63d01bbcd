/- Calls of TopReflect: each by the kernel. -/
import Derived.Test.YtgedmmmgkfehjaaGreatDoorYf0
namespace Go.Proofs.YtgedmmmgkfehjaaGreatDoor
theorem ok_ef16 : EntOK (EV 0 200) ef16 :=
  entRun_ok (env_ok 0 200) (tab := [ef15]) (d := 400) (fun e he => by
    simp only [List.mem_cons, List.not_mem_nil, or_false] at he
    rcases he with rfl
    · exact ok_ef15) (by kernel_rfl)
theorem ok_ef17 : EntOK (EV 0 200) ef17 :=
  entRun_ok (env_ok 0 200) (tab := []) (d := 400) (fun e he => by cases he) (by kernel_rfl)
theorem ok_ef18 : EntOK (EV 0 200) ef18 :=
  entRun_ok (env_ok 0 200) (tab := []) (d := 400) (fun e he => by cases he) (by kernel_rfl)
theorem ok_ef19 : EntOK (EV 0 200) ef19 :=
  entRun_ok (env_ok 0 200) (tab := []) (d := 400) (fun e he => by cases he) (by kernel_rfl)
end Go.Proofs.YtgedmmmgkfehjaaGreatDoor
