/- Calls of TopReflect: each by the kernel. -/
import Derived.Test.YtgedmmmgkfehjaaGreatDoorYf1
namespace Go.Proofs.YtgedmmmgkfehjaaGreatDoor
theorem ok_ef20 : EntOK (EV 0 200) ef20 :=
  entRun_ok (env_ok 0 200) (tab := []) (d := 400) (fun e he => by cases he) (by kernel_rfl)
theorem ok_ef21 : EntOK (EV 0 200) ef21 :=
  entRun_ok (env_ok 0 200) (tab := [ef20]) (d := 400) (fun e he => by
    simp only [List.mem_cons, List.not_mem_nil, or_false] at he
    rcases he with rfl
    · exact ok_ef20) (by kernel_rfl)
theorem ok_ef22 : EntOK (EV 0 200) ef22 :=
  entRun_ok (env_ok 0 200) (tab := []) (d := 400) (fun e he => by cases he) (by kernel_rfl)
theorem ok_ef23 : EntOK (EV 0 200) ef23 :=
  entRun_ok (env_ok 0 200) (tab := []) (d := 400) (fun e he => by cases he) (by kernel_rfl)
theorem ok_ef24 : EntOK (EV 0 200) ef24 :=
  entRun_ok (env_ok 0 200) (tab := [ef23, ef22]) (d := 400) (fun e he => by
    simp only [List.mem_cons, List.not_mem_nil, or_false] at he
    rcases he with rfl | rfl
    · exact ok_ef23
    · exact ok_ef22) (by kernel_rfl)
end Go.Proofs.YtgedmmmgkfehjaaGreatDoor
