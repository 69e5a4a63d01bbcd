/- The closed facts of the row of TopReflect. -/
import Derived.Test.YtgedmmmgkfehjaaGreatDoorJg
import Derived.Test.YtgedmmmgkfehjaaGreatDoorCards
import Derived.Test.YtgedmmmgkfehjaaGreatDoorTie
namespace Go.Proofs.YtgedmmmgkfehjaaGreatDoor
set_option maxRecDepth 100000
theorem in_place : Tryz.prog.inPlace 6 = ["math.Float64frombits", "internal/abi.NoEscape"] := by
  unfold Program.inPlace
  rw [reached_eq]
  kernel_rfl
theorem un_followed : Tryz.prog.unfollowed 6 = true := by
  unfold Program.unfollowed
  rw [reached_eq]
  kernel_rfl
theorem re_curses : Tryz.prog.recurses 6 = true := by
  unfold Program.recurses
  rw [un_followed]
  rfl
theorem vars_named : Tryz.prog.varsNamed 6 = ["internal/strconv.uint64pow10", "math/bits.deBruijn32tab", "math/bits.deBruijn64tab"] := by
  unfold Program.varsNamed
  rw [reached_eq]
  kernel_rfl
theorem goes_not : Tryz.prog.goes 6 = false := by
  unfold Program.goes
  rw [reached_eq]
  kernel_rfl
theorem goes_by_of {P : Program} {c : OpenClaim} {f : FuncId} (hs : c.start = .entering) (hf : P.funcNamed c.func = some f) (hg : P.goes f = false) : false = c.goesBy P := by
  unfold OpenClaim.goesBy Program.goesAt Program.goesFrom
  rw [hs, hf]
  simp [hg]
theorem goes_by : false = Rows.topReflectRow.goesBy Tryz.prog := goes_by_of rfl (by kernel_rfl) goes_not
theorem and2 {a b : Bool} (h1 : a = true) (h2 : b = true) : (a && b) = true := by rw [h1, h2]; rfl
theorem eq_in : (Rows.topReflectRow.inPlace == Tryz.prog.inPlace 6) = true := by rw [in_place]; kernel_rfl
theorem eq_un : (Rows.topReflectRow.unfollowed == Tryz.prog.unfollowed 6) = true := by rw [un_followed]; kernel_rfl
theorem eq_re : (Rows.topReflectRow.recurses == Tryz.prog.recurses 6) = true := by rw [re_curses]; kernel_rfl
theorem eq_vars : (Rows.topReflectRow.named == Tryz.prog.varsNamed 6) = true := by rw [vars_named]; kernel_rfl
theorem j_laid : laidOutB Tryz.prog = true := by kernel_rfl
theorem j_maps : mapsRowed Tryz.prog = true := by kernel_rfl
theorem j_tie : namedTie Tryz.prog Rows.topReflectRow.named (OpenSpec.ofChange Rows.topReflectSpec).bare.vars = true := by kernel_rfl
theorem j_keys : (Rows.topReflectRow.plainKeys == Tryz.prog.plainKeys) = true := by kernel_rfl
end Go.Proofs.YtgedmmmgkfehjaaGreatDoor
