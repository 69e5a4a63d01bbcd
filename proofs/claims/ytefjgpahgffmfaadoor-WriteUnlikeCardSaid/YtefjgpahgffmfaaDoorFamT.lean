/- A region that draws its order, whose operations read what stays and whose callees make memory only: one walk in the text's order, over a family of worlds. Over any program. -/
import Derived.Test.YtefjgpahgffmfaaDoorTt
import Derived.BigQuiet
import Derived.Deep.QuietTactic
namespace Go.Proofs.YtefjgpahgffmfaaDoor
open Go.RowKit

theorem wp_region_fam_lit {P : Program} {id : Nat} {Q : Exit → Act → World → Prop} {a : Act} {w : World} {l : List Oper} {σ : Type} (f : σ → World) (hm : P.follows .mixedOrders = true) (hB : Region.lexB .any l.toArray = true) (hC : ∃ s, w.drew = f s)
    (h : wpQuiet P l.toArray (fun w' => ∃ s, w' = f s) (fun a' => ∀ w', (∃ s, w' = f s) → Q .normal a' w') l a) : (Code.region id l.toArray true).wp P Q a w :=
  wp_region_quiet (C := fun w' => ∃ s, w' = f s) hm hB hC (by simpa using h)

/-- the worlds in which W0's blocks below B stand as they stood -/
theorem fam (B : Nat) (W0 : World) (hB : B ≤ W0.heap.size) : ∃ (σ : Type) (f : σ → World), Nonempty σ ∧ (∀ s, Below B W0 (f s) ∧ B ≤ (f s).heap.size) ∧ (∀ w', Below B W0 w' → ∃ s, w' = f s) :=
  ⟨{ w' : World // Below B W0 w' ∧ B ≤ w'.heap.size }, fun s => s.1, ⟨⟨W0, Below.refl _ _, hB⟩⟩, fun s => s.2, fun w' h => ⟨⟨w', h, Nat.le_trans hB h.size⟩, rfl⟩⟩

theorem calls_fam {P : Program} {F : FuncId} {args : Array Value} {v : Value} {σ : Type} {f : σ → World} {B : Nat} {W0 : World} {s : σ} (hf : ∀ s, Below B W0 (f s) ∧ B ≤ (f s).heap.size) (hcov : ∀ w', Below B W0 w' → ∃ s, w' = f s)
    (h : Calls P F args (f s) fun e w' => e = .returned v ∧ Below (f s).heap.size (f s) w') : Calls P F args (f s) fun e w'' => e = .returned v ∧ ∃ s', w'' = f s' :=
  h.mono fun _ w' ⟨he, hb⟩ => ⟨he, hcov w' ((hf s).1.trans (hb.mono (hf s).2))⟩
theorem calls_fam_same {P : Program} {F : FuncId} {args : Array Value} {v : Value} {σ : Type} {f : σ → World} {s : σ}
    (h : Calls P F args (f s) fun e w' => e = .returned v ∧ f s = w') : Calls P F args (f s) fun e w'' => e = .returned v ∧ ∃ s', w'' = f s' :=
  h.mono fun _ _ ⟨he, hw⟩ => ⟨he, s, hw.symm⟩
end Go.Proofs.YtefjgpahgffmfaaDoor
