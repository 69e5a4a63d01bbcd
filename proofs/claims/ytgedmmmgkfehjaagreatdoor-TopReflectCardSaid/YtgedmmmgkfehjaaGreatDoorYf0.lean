/- Calls of TopReflect: each by the kernel. -/
import Derived.Test.YtgedmmmgkfehjaaGreatDoorYf
namespace Go.Proofs.YtgedmmmgkfehjaaGreatDoor
theorem ok_ef0 : EntOK (EV 0 200) ef0 :=
  EntOK.join (by kernel_rfl) (entRun_ok (env_ok 0 0) (tab := []) (d := 400) (fun e he => by cases he) (by kernel_rfl)) (entRun_ok (env_ok 1 200) (tab := []) (d := 400) (fun e he => by cases he) (by kernel_rfl))
theorem ok_ef1 : EntOK (EV 0 200) ef1 :=
  EntOK.join (by kernel_rfl) (entRun_ok (env_ok 0 0) (tab := []) (d := 400) (fun e he => by cases he) (by kernel_rfl)) (entRun_ok (env_ok 1 200) (tab := []) (d := 400) (fun e he => by cases he) (by kernel_rfl))
theorem ok_ef2 : EntOK (EV 0 200) ef2 :=
  EntOK.join (by kernel_rfl) (entRun_ok (env_ok 0 0) (tab := []) (d := 400) (fun e he => by cases he) (by kernel_rfl)) (entRun_ok (env_ok 1 200) (tab := []) (d := 400) (fun e he => by cases he) (by kernel_rfl))
theorem ok_ef3 : EntOK (EV 0 200) ef3 :=
  EntOK.join (by kernel_rfl) (entRun_ok (env_ok 0 0) (tab := []) (d := 400) (fun e he => by cases he) (by kernel_rfl)) (entRun_ok (env_ok 1 200) (tab := []) (d := 400) (fun e he => by cases he) (by kernel_rfl))
theorem ok_ef4 : EntOK (EV 0 200) ef4 :=
  entRun_ok (env_ok 0 200) (tab := []) (d := 400) (fun e he => by cases he) (by kernel_rfl)
theorem ok_ef5 : EntOK (EV 0 200) ef5 :=
  entRun_ok (env_ok 0 200) (tab := [ef4]) (d := 400) (fun e he => by
    simp only [List.mem_cons, List.not_mem_nil, or_false] at he
    rcases he with rfl
    · exact ok_ef4) (by kernel_rfl)
theorem ok_ef6 : EntOK (EV 0 200) ef6 :=
  entRun_ok (env_ok 0 200) (tab := [ef0, ef1, ef2, ef3, ef5]) (d := 400) (fun e he => by
    simp only [List.mem_cons, List.not_mem_nil, or_false] at he
    rcases he with rfl | rfl | rfl | rfl | rfl
    · exact ok_ef0
    · exact ok_ef1
    · exact ok_ef2
    · exact ok_ef3
    · exact ok_ef5) (by kernel_rfl)
theorem ok_ef7 : EntOK (EV 0 200) ef7 :=
  EntOK.join (by kernel_rfl) (entRun_ok (env_ok 0 0) (tab := []) (d := 400) (fun e he => by cases he) (by kernel_rfl)) (entRun_ok (env_ok 1 200) (tab := []) (d := 400) (fun e he => by cases he) (by kernel_rfl))
theorem ok_ef8 : EntOK (EV 0 200) ef8 :=
  EntOK.join (by kernel_rfl) (entRun_ok (env_ok 0 0) (tab := []) (d := 400) (fun e he => by cases he) (by kernel_rfl)) (entRun_ok (env_ok 1 200) (tab := []) (d := 400) (fun e he => by cases he) (by kernel_rfl))
theorem ok_ef9 : EntOK (EV 0 200) ef9 :=
  EntOK.join (by kernel_rfl) (entRun_ok (env_ok 0 0) (tab := []) (d := 400) (fun e he => by cases he) (by kernel_rfl)) (entRun_ok (env_ok 1 200) (tab := []) (d := 400) (fun e he => by cases he) (by kernel_rfl))
theorem ok_ef10 : EntOK (EV 0 200) ef10 :=
  EntOK.join (by kernel_rfl) (entRun_ok (env_ok 0 0) (tab := []) (d := 400) (fun e he => by cases he) (by kernel_rfl)) (entRun_ok (env_ok 1 200) (tab := []) (d := 400) (fun e he => by cases he) (by kernel_rfl))
theorem ok_ef11 : EntOK (EV 0 200) ef11 :=
  EntOK.join (by kernel_rfl) (entRun_ok (env_ok 0 0) (tab := []) (d := 400) (fun e he => by cases he) (by kernel_rfl)) (entRun_ok (env_ok 1 200) (tab := []) (d := 400) (fun e he => by cases he) (by kernel_rfl))
theorem ok_ef12 : EntOK (EV 0 200) ef12 :=
  EntOK.join (by kernel_rfl) (entRun_ok (env_ok 0 0) (tab := []) (d := 400) (fun e he => by cases he) (by kernel_rfl)) (entRun_ok (env_ok 1 200) (tab := []) (d := 400) (fun e he => by cases he) (by kernel_rfl))
theorem ok_ef13 : EntOK (EV 0 200) ef13 :=
  entRun_ok (env_ok 0 200) (tab := []) (d := 400) (fun e he => by cases he) (by kernel_rfl)
theorem ok_ef14 : EntOK (EV 0 200) ef14 :=
  entRun_ok (env_ok 0 200) (tab := [ef7, ef8, ef9, ef10, ef11, ef12, ef13]) (d := 400) (fun e he => by
    simp only [List.mem_cons, List.not_mem_nil, or_false] at he
    rcases he with rfl | rfl | rfl | rfl | rfl | rfl | rfl
    · exact ok_ef7
    · exact ok_ef8
    · exact ok_ef9
    · exact ok_ef10
    · exact ok_ef11
    · exact ok_ef12
    · exact ok_ef13) (by kernel_rfl)
theorem ok_ef15 : EntOK (EV 0 200) ef15 :=
  entRun_ok (env_ok 0 200) (tab := []) (d := 400) (fun e he => by cases he) (by kernel_rfl)
end Go.Proofs.YtgedmmmgkfehjaaGreatDoor
