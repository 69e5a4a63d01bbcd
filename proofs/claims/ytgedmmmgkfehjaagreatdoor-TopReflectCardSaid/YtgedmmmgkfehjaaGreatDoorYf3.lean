/- Calls of TopReflect: each by the kernel. -/
import Derived.Test.YtgedmmmgkfehjaaGreatDoorYf2
namespace Go.Proofs.YtgedmmmgkfehjaaGreatDoor
theorem ok_ef25 : EntOK (EV 0 200) ef25 :=
  entRun_ok (env_ok 0 200) (tab := [ef24, ef19, ef18, ef21]) (d := 400) (fun e he => by
    simp only [List.mem_cons, List.not_mem_nil, or_false] at he
    rcases he with rfl | rfl | rfl | rfl
    · exact ok_ef24
    · exact ok_ef19
    · exact ok_ef18
    · exact ok_ef21) (by kernel_rfl)
theorem ok_ef26 : EntOK (EV 0 200) ef26 :=
  entRun_ok (env_ok 0 200) (tab := []) (d := 400) (fun e he => by cases he) (by kernel_rfl)
theorem ok_ef27 : EntOK (EV 0 200) ef27 :=
  entRun_ok (env_ok 0 200) (tab := []) (d := 400) (fun e he => by cases he) (by kernel_rfl)
theorem ok_ef28 : EntOK (EV 0 200) ef28 :=
  entRun_ok (env_ok 0 200) (tab := [ef26, ef27]) (d := 400) (fun e he => by
    simp only [List.mem_cons, List.not_mem_nil, or_false] at he
    rcases he with rfl | rfl
    · exact ok_ef26
    · exact ok_ef27) (by kernel_rfl)
end Go.Proofs.YtgedmmmgkfehjaaGreatDoor
