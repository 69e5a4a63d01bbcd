/- The closed facts of the row of TopReflect, together. -/
import Derived.Test.YtgedmmmgkfehjaaGreatDoorJh
namespace Go.Proofs.YtgedmmmgkfehjaaGreatDoor
set_option maxRecDepth 100000
theorem joined : joinedFacts Tryz.prog 6 Tryz.f6 (OpenSpec.ofChange Rows.topReflectSpec).bare Rows.topReflectRow = true := by
  unfold joinedFacts
  repeat' with_reducible refine and2 ?_ ?_
  all_goals first | with_reducible exact eq_in | with_reducible exact eq_un | with_reducible exact eq_re | with_reducible exact eq_vars | with_reducible exact j_laid | with_reducible exact j_maps | with_reducible exact j_tie | with_reducible exact j_keys | kernel_rfl
end Go.Proofs.YtgedmmmgkfehjaaGreatDoor
