/- The builder's state; walk of write.write. -/
import Derived.Test.YtfklmcmoackepaaDoorSf
import Derived.Test.YtfklmcmoackepaaDoorBuild
import Derived.Deep.DeepCutAuto
import Derived.StillTailTactics
namespace Go.Proofs.YtfklmcmoackepaaDoor
open Go.RowKit

theorem isBuilder_below {T e : TypeId} {B b : Nat} {bs : List Value} {w w' : World} (h : Lib.IsBuilderF T e B b bs w) (hb : Below w.heap.size w w') : Lib.IsBuilderF T e B b bs w' := by
  have hg : w.grownBy w' none := ⟨hb.os, hb.tape, hb.output, hb.size, fun k hk _ => hb.block k hk⟩
  have key : ∀ p, Lib.BuilderAtF T e B b p bs w → Lib.BuilderAtF T e B b p bs w' := by
    intro p h
    have hlt := h.lt
    obtain ⟨hB, v, hbk, hown, hne⟩ := h
    exact ⟨hB, v, by rw [hb.block b hlt]; exact hbk, hown.kept hg (by cases hv : v.ownBlock <;> simp), hne⟩
  exact h.elim (fun x => .inl (key _ x)) (fun x => .inr (key _ x))
theorem others_below {e : TypeId} {b : Option Nat} {a w w' : World} (h : Lib.OthersKept e b a w) (hb : Below w.heap.size w w') : Lib.OthersKept e b a w' := by
  intro k x hk hbk hx
  have h1 := h k x hk hbk hx
  have hlt : k < w.heap.size := (Array.getElem?_eq_some_iff.1 h1).1
  rw [hb.block k hlt]; exact h1
theorem others_of_below {e : TypeId} {b : Option Nat} {w w' : World} (hb : Below w.heap.size w w') : Lib.OthersKept e b w w' := others_below (Lib.OthersKept.refl _ _ _) hb


/-- a block that is no row of bytes stands -/
theorem OthersKept.box {e t : TypeId} {b : Option Nat} {w w' : World} {k : Nat} {cs : Array Value} {fz : Nat × Nat} (h : Lib.OthersKept e b w w') (hk : w.heap[k]? = some (.cells cs t fz)) (hb : some k ≠ b) (ht : t ≠ e) : w'.heap[k]? = some (.cells cs t fz) :=
  h k _ hk hb (fun c f he => by injection he with _ h2; exact ht h2)

theorem heap_new (w : World) (cs : Array Value) (t : TypeId) : (w.alloc (.cells cs t)).heap[w.heap.size]? = some (.cells cs t (0, 0)) := by unfold World.alloc; simp

theorem mk_size (M : List UInt8) : (ByteArray.mk M.toArray).size = M.length := by show M.toArray.size = _; simp




theorem box_cells5 {w : World} {k : Nat} {x y z u v : Value} {t : TypeId} {fz : Nat × Nat} (h : w.heap[k]? = some (.cells #[x, y, z, u, v] t fz)) : w.cell? ⟨k, 0, none⟩ = some x ∧ w.cell? ⟨k, 1, none⟩ = some y ∧ w.cell? ⟨k, 2, none⟩ = some z ∧ w.cell? ⟨k, 3, none⟩ = some u ∧ w.cell? ⟨k, 4, none⟩ = some v :=
  ⟨Lib.cell_of_heap h 0, Lib.cell_of_heap h 1, Lib.cell_of_heap h 2, Lib.cell_of_heap h 3, Lib.cell_of_heap h 4⟩
theorem below_drewN (w : World) (n : Nat) : Below w.heap.size w (w.drewN n) := ⟨(Below.refl w.heap.size w).os, (Below.refl w.heap.size w).tape, (Below.refl w.heap.size w).output, (Below.refl w.heap.size w).size, (Below.refl w.heap.size w).block⟩
theorem neTU : 24 ≠ tU := by decide
def pc1 (k i : Int) : List UInt8 := if 0 < levelsK k then 32 :: Lib.itoa i else []
def pc2 (k j : Int) : List UInt8 := if 1 < levelsK k then 32 :: Lib.itoa j else []
def pc3 (k m : Int) : List UInt8 := if bindsK k 1 = 1 then 32 :: nameL m else []
theorem headT_eq (k i j n m : Int) : headT k i j n m = (40 :: wordF k n) ++ pc1 k i ++ pc2 k j ++ pc3 k m := by simp [headT, wordF, pc1, pc2, pc3]
theorem writeTs_append (k m : Int) : ∀ (a b : List TT) (x : Nat), writeTs k m x (a ++ b) = writeTs k m x a ++ writeTs k m (x + a.length) b
  | [], b, x => by simp [writeTs]
  | t :: a, b, x => by
    have := writeTs_append k m a b (x + 1)
    simp only [List.cons_append, writeTs, this, List.length_cons]
    rw [show x + 1 + a.length = x + (a.length + 1) by omega]
    simp
def pcJ (k m : Int) (x : Nat) : List UInt8 := if k = 22 ∧ x = 2 then 32 :: (nameL m ++ 32 :: nameL (m + 1)) else []
theorem writeTs_take {k m : Int} {ks : List TT} {q : Nat} {t : TT} (h : ks[q]? = some t) : writeTs k m 0 (ks.take (q + 1)) = writeTs k m 0 (ks.take q) ++ (pcJ k m q ++ 32 :: writeT t (m + bindsK k q)) := by
  obtain ⟨hlt, he⟩ := List.getElem?_eq_some_iff.1 h
  rw [List.take_succ_eq_append_getElem hlt, writeTs_append, he]
  simp [writeTs, pcJ, Nat.min_eq_left (Nat.le_of_lt hlt)]
theorem writeTs_take_le (k m : Int) (ks : List TT) (q : Nat) : (writeTs k m 0 (ks.take q)).length ≤ (writeTs k m 0 ks).length := by
  have := writeTs_append k m (ks.take q) (ks.drop q) 0
  rw [List.take_append_drop] at this
  rw [this]; simp
theorem writeT_open {k i j n m : Int} {ks : List TT} (hk : k ≠ 2) : writeT (.node k i j n ks) m = (40 :: wordF k n) ++ pc1 k i ++ pc2 k j ++ pc3 k m ++ writeTs k m 0 ks ++ [41] := by
  rw [← headT_eq]; simp [writeT, hk]
theorem wordF_le (k n : Int) : (wordF k n).length ≤ 32 := by
  have h1 := symK_le n
  have h2 : (wordK k).length ≤ 4 := by
    unfold wordK
    match (k - 1).toNat with
    | 0 | 1 | 2 | 3 | 4 | 5 | 6 | 7 | 8 | 9 | 10 | 11 | 12 | 13 | 14 | 15 | 16 | 17 | 18 | 19 | 20 | 21 | 22 => decide
    | m + 23 => simp [markWords]
  unfold wordF
  split <;> simp <;> omega
theorem levels_in (k : Int) : levelsK k = 0 ∨ levelsK k = 1 ∨ levelsK k = 2 := by
  by_cases h1 : k = 1 ∨ k = 10 ∨ k = 11 ∨ k = 12
  · exact .inr (.inl (by unfold levelsK; rw [if_pos h1]))
  · by_cases h2 : 3 ≤ k ∧ k ≤ 9 ∨ k = 23
    · exact .inr (.inr (by unfold levelsK; rw [if_neg h1, if_pos h2]))
    · exact .inl (by unfold levelsK; rw [if_neg h1, if_neg h2])
theorem nameL_le {n : Int} (h : In64 n) : (nameL n).length ≤ 21 := by have := itoa_le h; simp [nameL]; omega


end Go.Proofs.YtfklmcmoackepaaDoor
