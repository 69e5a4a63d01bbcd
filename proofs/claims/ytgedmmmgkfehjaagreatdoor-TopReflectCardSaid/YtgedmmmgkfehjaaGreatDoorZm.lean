/- The reckoner at this program. -/
import Derived.Test.YtgedmmmgkfehjaaGreatDoorZl
import Derived.Test.YtgedmmmgkfehjaaGreatDoorZi7
import Derived.Test.YtgedmmmgkfehjaaGreatDoorProg
import Derived.Laws.Externs
import Derived.KernelRfl
namespace Go.Proofs.YtgedmmmgkfehjaaGreatDoor

/-- the program, and the bounds of the given int -/
noncomputable abbrev EV (lo hi : Int) : Env := { P := Tryz.prog, lo := lo, hi := hi, noEscape := 269, fromBits := 33 }

theorem env_ok (lo hi : Int) : EnvOK (EV lo hi) where
  noEsc w x := by
    show (callFunc 269 #[x]).run Tryz.prog w = _
    rw [run_callFunc_extern Tryz.func269 (by kernel_rfl) (by kernel_rfl) (by kernel_rfl) (e := Extern.AbiNoEscape.same) (by kernel_rfl)]
    rfl
  bits w b := by
    show (callFunc 33 #[.int .u64 b]).run Tryz.prog w = _
    rw [run_callFunc_extern Tryz.func33 (by kernel_rfl) (by kernel_rfl) (by kernel_rfl) (e := Extern.MathFloatBits.float64frombits) (by kernel_rfl)]
    rfl
  mixed := by kernel_rfl

theorem run_ok {β : Type} (lo hi : Int) (d : Nat) : CallSound (β := β) (EV lo hi) (runF (EV lo hi) d) := runF_ok (env_ok lo hi) (fun _ h => reg_sound (env_ok lo hi).mixed h) d
end Go.Proofs.YtgedmmmgkfehjaaGreatDoor
