/- Calls of TopReflect: each by the kernel. -/
import Derived.Test.YtgedmmmgkfehjaaGreatDoorYt
namespace Go.Proofs.YtgedmmmgkfehjaaGreatDoor
theorem ok_et0 : EntOK (EV 0 200) et0 :=
  EntOK.join (by kernel_rfl) (entRun_ok (env_ok 0 0) (tab := []) (d := 400) (fun e he => by cases he) (by kernel_rfl)) (entRun_ok (env_ok 1 200) (tab := []) (d := 400) (fun e he => by cases he) (by kernel_rfl))
theorem ok_et1 : EntOK (EV 0 200) et1 :=
  EntOK.join (by kernel_rfl) (entRun_ok (env_ok 0 0) (tab := []) (d := 400) (fun e he => by cases he) (by kernel_rfl)) (entRun_ok (env_ok 1 200) (tab := []) (d := 400) (fun e he => by cases he) (by kernel_rfl))
theorem ok_et2 : EntOK (EV 0 200) et2 :=
  EntOK.join (by kernel_rfl) (entRun_ok (env_ok 0 0) (tab := []) (d := 400) (fun e he => by cases he) (by kernel_rfl)) (entRun_ok (env_ok 1 200) (tab := []) (d := 400) (fun e he => by cases he) (by kernel_rfl))
theorem ok_et3 : EntOK (EV 0 200) et3 :=
  EntOK.join (by kernel_rfl) (entRun_ok (env_ok 0 0) (tab := []) (d := 400) (fun e he => by cases he) (by kernel_rfl)) (entRun_ok (env_ok 1 200) (tab := []) (d := 400) (fun e he => by cases he) (by kernel_rfl))
theorem ok_et4 : EntOK (EV 0 200) et4 :=
  entRun_ok (env_ok 0 200) (tab := []) (d := 400) (fun e he => by cases he) (by kernel_rfl)
theorem ok_et5 : EntOK (EV 0 200) et5 :=
  entRun_ok (env_ok 0 200) (tab := [et4]) (d := 400) (fun e he => by
    simp only [List.mem_cons, List.not_mem_nil, or_false] at he
    rcases he with rfl
    · exact ok_et4) (by kernel_rfl)
theorem ok_et6 : EntOK (EV 0 200) et6 :=
  entRun_ok (env_ok 0 200) (tab := [et0, et1, et2, et3, et5]) (d := 400) (fun e he => by
    simp only [List.mem_cons, List.not_mem_nil, or_false] at he
    rcases he with rfl | rfl | rfl | rfl | rfl
    · exact ok_et0
    · exact ok_et1
    · exact ok_et2
    · exact ok_et3
    · exact ok_et5) (by kernel_rfl)
theorem ok_et7 : EntOK (EV 0 200) et7 :=
  EntOK.join (by kernel_rfl) (entRun_ok (env_ok 0 0) (tab := []) (d := 400) (fun e he => by cases he) (by kernel_rfl)) (entRun_ok (env_ok 1 200) (tab := []) (d := 400) (fun e he => by cases he) (by kernel_rfl))
theorem ok_et8 : EntOK (EV 0 200) et8 :=
  EntOK.join (by kernel_rfl) (entRun_ok (env_ok 0 0) (tab := []) (d := 400) (fun e he => by cases he) (by kernel_rfl)) (entRun_ok (env_ok 1 200) (tab := []) (d := 400) (fun e he => by cases he) (by kernel_rfl))
theorem ok_et9 : EntOK (EV 0 200) et9 :=
  EntOK.join (by kernel_rfl) (entRun_ok (env_ok 0 0) (tab := []) (d := 400) (fun e he => by cases he) (by kernel_rfl)) (entRun_ok (env_ok 1 200) (tab := []) (d := 400) (fun e he => by cases he) (by kernel_rfl))
theorem ok_et10 : EntOK (EV 0 200) et10 :=
  EntOK.join (by kernel_rfl) (entRun_ok (env_ok 0 0) (tab := []) (d := 400) (fun e he => by cases he) (by kernel_rfl)) (entRun_ok (env_ok 1 200) (tab := []) (d := 400) (fun e he => by cases he) (by kernel_rfl))
theorem ok_et11 : EntOK (EV 0 200) et11 :=
  EntOK.join (by kernel_rfl) (entRun_ok (env_ok 0 0) (tab := []) (d := 400) (fun e he => by cases he) (by kernel_rfl)) (entRun_ok (env_ok 1 200) (tab := []) (d := 400) (fun e he => by cases he) (by kernel_rfl))
theorem ok_et12 : EntOK (EV 0 200) et12 :=
  EntOK.join (by kernel_rfl) (entRun_ok (env_ok 0 0) (tab := []) (d := 400) (fun e he => by cases he) (by kernel_rfl)) (entRun_ok (env_ok 1 200) (tab := []) (d := 400) (fun e he => by cases he) (by kernel_rfl))
theorem ok_et13 : EntOK (EV 0 200) et13 :=
  entRun_ok (env_ok 0 200) (tab := []) (d := 400) (fun e he => by cases he) (by kernel_rfl)
theorem ok_et14 : EntOK (EV 0 200) et14 :=
  entRun_ok (env_ok 0 200) (tab := [et7, et8, et9, et10, et11, et12, et13]) (d := 400) (fun e he => by
    simp only [List.mem_cons, List.not_mem_nil, or_false] at he
    rcases he with rfl | rfl | rfl | rfl | rfl | rfl | rfl
    · exact ok_et7
    · exact ok_et8
    · exact ok_et9
    · exact ok_et10
    · exact ok_et11
    · exact ok_et12
    · exact ok_et13) (by kernel_rfl)
end Go.Proofs.YtgedmmmgkfehjaaGreatDoor
