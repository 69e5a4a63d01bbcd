/- The library's lines, each looked at by the kernel. The library's lines, each looked at by the kernel. -/
import Derived.Test.YtfklmcmoackepaaDoorSgD
import Derived.Test.YtfklmcmoackepaaDoorSgF
namespace Go.Proofs.YtfklmcmoackepaaDoor
open Go.RowKit

set_option maxHeartbeats 100000000 in
theorem lineOK0 : checkL 0 (lineText Tryd.f16 0) = true := by decide +kernel
set_option maxHeartbeats 100000000 in
theorem lineJ0 : checkJ (lineText Tryd.f16 0) = true := by decide +kernel
set_option maxHeartbeats 100000000 in
theorem lineOK1 : checkL 1 (lineText Tryd.f16 1) = true := by decide +kernel
set_option maxHeartbeats 100000000 in
theorem lineOK2 : checkL 2 (lineText Tryd.f16 2) = true := by decide +kernel
set_option maxHeartbeats 100000000 in
theorem lineJ2 : checkJ (lineText Tryd.f16 2) = true := by decide +kernel
set_option maxHeartbeats 100000000 in
theorem lineOK3 : checkL 3 (lineText Tryd.f16 3) = true := by decide +kernel
set_option maxHeartbeats 100000000 in
theorem lineJ3 : checkJ (lineText Tryd.f16 3) = true := by decide +kernel
set_option maxHeartbeats 100000000 in
theorem lineOK4 : checkL 4 (lineText Tryd.f16 4) = true := by decide +kernel
set_option maxHeartbeats 100000000 in
theorem lineJ4 : checkJ (lineText Tryd.f16 4) = true := by decide +kernel
set_option maxHeartbeats 100000000 in
theorem lineOK5 : checkL 5 (lineText Tryd.f16 5) = true := by decide +kernel
set_option maxHeartbeats 100000000 in
theorem lineJ5 : checkJ (lineText Tryd.f16 5) = true := by decide +kernel
set_option maxHeartbeats 100000000 in
theorem lineOK6 : checkL 6 (lineText Tryd.f16 6) = true := by decide +kernel
set_option maxHeartbeats 100000000 in
theorem lineJ6 : checkJ (lineText Tryd.f16 6) = true := by decide +kernel
set_option maxHeartbeats 100000000 in
theorem lineOK7 : checkL 7 (lineText Tryd.f16 7) = true := by decide +kernel
set_option maxHeartbeats 100000000 in
theorem lineJ7 : checkJ (lineText Tryd.f16 7) = true := by decide +kernel
set_option maxHeartbeats 100000000 in
theorem lineOK8 : checkL 8 (lineText Tryd.f16 8) = true := by decide +kernel
set_option maxHeartbeats 100000000 in
theorem lineJ8 : checkJ (lineText Tryd.f16 8) = true := by decide +kernel
set_option maxHeartbeats 100000000 in
theorem lineOK9 : checkL 9 (lineText Tryd.f16 9) = true := by decide +kernel
set_option maxHeartbeats 100000000 in
theorem lineJ9 : checkJ (lineText Tryd.f16 9) = true := by decide +kernel
set_option maxHeartbeats 100000000 in
theorem lineOK10 : checkL 10 (lineText Tryd.f16 10) = true := by decide +kernel
set_option maxHeartbeats 100000000 in
theorem lineJ10 : checkJ (lineText Tryd.f16 10) = true := by decide +kernel
set_option maxHeartbeats 100000000 in
theorem lineOK11 : checkL 11 (lineText Tryd.f16 11) = true := by decide +kernel
set_option maxHeartbeats 100000000 in
theorem lineOK12 : checkL 12 (lineText Tryd.f16 12) = true := by decide +kernel
set_option maxHeartbeats 100000000 in
theorem lineOK13 : checkL 13 (lineText Tryd.f16 13) = true := by decide +kernel
set_option maxHeartbeats 100000000 in
theorem lineOK14 : checkL 14 (lineText Tryd.f16 14) = true := by decide +kernel
end Go.Proofs.YtfklmcmoackepaaDoor

namespace Go.Proofs.YtfklmcmoackepaaDoor
open Go.RowKit

set_option maxHeartbeats 100000000 in
theorem lineOK18 : checkL 18 (lineText Tryd.f16 18) = true := by decide +kernel
set_option maxHeartbeats 100000000 in
theorem lineOK19 : checkL 19 (lineText Tryd.f16 19) = true := by decide +kernel
set_option maxHeartbeats 100000000 in
theorem lineJ19 : checkJ (lineText Tryd.f16 19) = true := by decide +kernel
set_option maxHeartbeats 100000000 in
theorem lineOK20 : checkL 20 (lineText Tryd.f16 20) = true := by decide +kernel
set_option maxHeartbeats 100000000 in
theorem lineJ20 : checkJ (lineText Tryd.f16 20) = true := by decide +kernel
theorem lines_ok (m : Nat) (h : m < 21) : checkL m (lineText Tryd.f16 m) = true :=
  match m, h with
  | 0, _ => lineOK0
  | 1, _ => lineOK1
  | 2, _ => lineOK2
  | 3, _ => lineOK3
  | 4, _ => lineOK4
  | 5, _ => lineOK5
  | 6, _ => lineOK6
  | 7, _ => lineOK7
  | 8, _ => lineOK8
  | 9, _ => lineOK9
  | 10, _ => lineOK10
  | 11, _ => lineOK11
  | 12, _ => lineOK12
  | 13, _ => lineOK13
  | 14, _ => lineOK14
  | 15, _ => lineOK15
  | 16, _ => lineOK16
  | 17, _ => lineOK17
  | 18, _ => lineOK18
  | 19, _ => lineOK19
  | 20, _ => lineOK20
  | _ + 21, h => absurd h (by omega)
theorem lines_j (m : Nat) (h : m < 21) (h1 : m ≠ 1) (h2 : m < 11 ∨ 18 < m) : checkJ (lineText Tryd.f16 m) = true :=
  match m, h, h1, h2 with
  | 0, _, _, _ => lineJ0
  | 1, _, h1, h2 => absurd h1 (by omega)
  | 2, _, _, _ => lineJ2
  | 3, _, _, _ => lineJ3
  | 4, _, _, _ => lineJ4
  | 5, _, _, _ => lineJ5
  | 6, _, _, _ => lineJ6
  | 7, _, _, _ => lineJ7
  | 8, _, _, _ => lineJ8
  | 9, _, _, _ => lineJ9
  | 10, _, _, _ => lineJ10
  | 11, _, h1, h2 => absurd h2 (by omega)
  | 12, _, h1, h2 => absurd h2 (by omega)
  | 13, _, h1, h2 => absurd h2 (by omega)
  | 14, _, h1, h2 => absurd h2 (by omega)
  | 15, _, h1, h2 => absurd h2 (by omega)
  | 16, _, h1, h2 => absurd h2 (by omega)
  | 17, _, h1, h2 => absurd h2 (by omega)
  | 18, _, h1, h2 => absurd h2 (by omega)
  | 19, _, _, _ => lineJ19
  | 20, _, _, _ => lineJ20
  | _ + 21, h, _, _ => absurd h (by omega)
end Go.Proofs.YtfklmcmoackepaaDoor
