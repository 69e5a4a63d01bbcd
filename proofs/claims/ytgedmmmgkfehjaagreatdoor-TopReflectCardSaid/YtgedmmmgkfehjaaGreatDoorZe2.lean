/- Appending: what the model does. -/
import Derived.Test.YtgedmmmgkfehjaaGreatDoorZe
import Derived.Laws.Append
namespace Go.Proofs.YtgedmmmgkfehjaaGreatDoor

section
variable {P : Program} {w : World}

/-- what is appended: so many elements, these cells -/
structure More (P : Program) (w : World) (z : Nat) (x : Value) (n : Nat) (new : Array Value) : Prop where
  len : ∀ w' : World, w'.heap = w.heap → (Builtin.lenOf x).run P w' = .ok n w'
  first : ∀ w' : World, w'.heap = w.heap → (Builtin.firstCells z n x).run P w' = .ok new w'

theorem run_app_in {t tx e ty : TypeId} {d : TypeDesc} {z n sLen sCap : Nat} {x : Value} {new : Array Value} {ad : Addr} {w' : World} (ht : P.underlying t = some (.slice e)) (hx : P.underlying tx = some d) (hd : (∃ q, d = .slice q) ∨ d = .string)
    (hz : (sizeOf e).run P w = .ok z w) (hm : More P w z x n new) (hroom : sLen + n ≤ sCap) (hst : (storeCells (ad.add (sLen * z)) new.toList).run P w = .ok () w') :
    (Builtin.append_ #[t, tx] ty #[.slice (some ad) sLen sCap, x]).run P w = .ok (.slice (some ad) (sLen + n) sCap) w' := by
  have h1 := hm.len w rfl
  have h2 := hm.first w rfl
  rcases hd with ⟨q, rfl⟩ | rfl
  · simp [Builtin.append_, run_underlying ht, run_underlying hx, hz, h1, h2, hroom, hst]
  · simp [Builtin.append_, run_underlying ht, run_underlying hx, hz, h1, h2, hroom, hst]

theorem run_app_grow {t tx e ty : TypeId} {d : TypeDesc} {i : TypeInfo} {zv : Value} {n sLen sCap : Nat} {x : Value} {base : Option Addr} {new old : Array Value} (ht : P.underlying t = some (.slice e)) (hx : P.underlying tx = some d) (hd : (∃ q, d = .slice q) ∨ d = .string)
    (hi : P.info? e = some i) (hz : i.zero = some zv) (hm : More P w i.size x n new) (hroom : ¬ sLen + n ≤ sCap)
    (hold : ∀ w' : World, w'.heap = w.heap → (Builtin.firstCells i.size sLen (.slice base sLen sCap)).run P w' = .ok old w') (hneed : sLen + n ≤ 1000000) (hby : i.bytes ≤ 1000000) :
    (Builtin.append_ #[t, tx] ty #[.slice base sLen sCap, x]).run P w =
      .ok (.slice (some ⟨w.heap.size, 0, none⟩) (sLen + n) (grownCap w (sLen + n) sCap e)) (w.drew.alloc (.cells (old ++ new ++ Builtin.zeroCells zv.cells (grownCap w (sLen + n) sCap e - (sLen + n))) e)) := by
  have h1 := hm.len w rfl
  have h2 := hm.first w.drew rfl
  have h3 := hold w.drew rfl
  have h63' : ¬ (9223372036854775807 < ((sLen : Int) + (n : Int))) := by omega
  have hfit : (sLen + n) * i.bytes ≤ 140737488355328 := by
    have : (sLen + n) * i.bytes ≤ 1000000 * 1000000 := Nat.mul_le_mul hneed hby
    omega
  have h48' : ¬ (281474976710656 < Builtin.nextslicecap (sLen + n) sCap * i.bytes) := by
    have := growslice_fits (need := sLen + n) (old := sCap) (by omega) hfit
    omega
  rcases hd with ⟨q, rfl⟩ | rfl
  · simp [Builtin.append_, run_underlying ht, run_underlying hx, sizeOf, typeInfo, zeroValue, hi, hz, h1, h2, h3, hroom, h63', h48', Question.forced, newRow, grownCap]
  · simp [Builtin.append_, run_underlying ht, run_underlying hx, sizeOf, typeInfo, zeroValue, hi, hz, h1, h2, h3, hroom, h63', h48', Question.forced, newRow, grownCap]

theorem grownCap_le {need old : Nat} {e : TypeId} : need ≤ grownCap w need old e := by
  exact Nat.le_add_right need _
theorem zeroCells_size (z : Array Value) (n : Nat) : (Builtin.zeroCells z n).size = n * z.size := by
  simp [Builtin.zeroCells]
end
end Go.Proofs.YtgedmmmgkfehjaaGreatDoor
