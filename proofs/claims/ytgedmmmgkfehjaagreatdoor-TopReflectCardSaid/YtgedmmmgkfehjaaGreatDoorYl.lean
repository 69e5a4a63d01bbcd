/- Tries, short. -/
import Derived.Test.YtgedmmmgkfehjaaGreatDoorZo4
namespace Go.Proofs.YtgedmmmgkfehjaaGreatDoor
@[reducible] def tL {α : Type} (v : α) : Tr α := .node (some v) .nil .nil
@[reducible] def tN {α : Type} (v : α) (l r : Tr α) : Tr α := .node (some v) l r
end Go.Proofs.YtgedmmmgkfehjaaGreatDoor
