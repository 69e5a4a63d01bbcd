/- A region that draws its order, its worlds described by what is listed: each operation yields one value and leads from the worlds of a list to the worlds of the list with it. Over any program. The deferred closure of parse.File: over a frame that panics with a fault; over one that returns. -/
import Derived.Test.YtfpiogaakblpeaaDoorRegion
import Derived.Test.YtfpiogaakblpeaaDoorParG
import Derived.Defers
import Derived.Recover
import Derived.Laws.Pointers
namespace Go.Proofs.YtfpiogaakblpeaaDoor
open Go.RowKit
section
variable {P : Program} {ops : Array Oper} {C : Array Bool → World → Prop}
def SemY (P : Program) (ops : Array Oper) (C : Array Bool → World → Prop) (i : Nat) (a : Act) (v : Value) : Prop :=
  ∃ o, ops[i]? = some o ∧ ∀ (listed : Array Bool) (W : World), listed.getD i true = false → C listed W → Leaves P (C (listed.setIfInBounds i true)) v ((execOp a.eval o).run P W)
theorem semY_congr : Congr ops (SemY P ops C) := by
  intro i o a a' v ho he ⟨o', ho', h⟩
  obtain rfl : o = o' := Option.some.inj (ho.symm.trans ho')
  refine ⟨o, ho, ?_⟩
  rw [he]
  exact h
theorem wp_region_sem_lit {id : Nat} {Q : Exit → Act → World → Prop} {a : Act} {w : World} {l : List Oper} (C : Array Bool → World → Prop) (hm : P.follows .mixedOrders = true) (hB : Region.lexB .any l.toArray = true) (hg : (l.all fun o => o.guard.isNone) = true)
    (hC : C (Array.replicate l.length false) w.drew)
    (h : yLex l.toArray (SemY P l.toArray C) (fun a' => ∀ listed w', (∀ j, j < l.length → listed.getD j false = true) → C listed w' → Q .normal a' w') 0 l a) : (Code.region id l.toArray true).wp P Q a w := by
  refine wp_region_y (Y := SemY P l.toArray C) C hm hB semY_congr (by simpa using hC) ?_ ?_ (by simpa using h)
  · rintro i o a v listed W ho hun ⟨o', ho', hY⟩ hC
    obtain rfl : o = o' := Option.some.inj (ho.symm.trans ho')
    exact hY listed W hun hC
  · intro i o listed W ho hgd _
    have hm : o ∈ l := by
      have : l[i]? = some o := by simpa using ho
      exact List.mem_of_getElem? this
    have := List.all_eq_true.1 hg o hm
    exact absurd (by simpa using this) hgd
theorem sem_step {Q : Act → Prop} {k : Nat} {o : Oper} {rest : List Oper} {a : Act} (v : Value) (ho : ops[k]? = some o) (hg : o.guard = none)
    (h1 : ∀ (listed : Array Bool) (W : World), listed.getD k true = false → C listed W → Leaves P (C (listed.setIfInBounds k true)) v ((execOp a.eval o).run P W))
    (h : yLex ops (SemY P ops C) Q (k + 1) rest (a.put o.dst v)) : yLex ops (SemY P ops C) Q k (o :: rest) a := by
  unfold yLex
  rw [if_pos (by simp [Region.wanted, hg])]
  exact ⟨v, ⟨o, ho, h1⟩, h⟩
end
attribute [go_sem] Leaves
end Go.Proofs.YtfpiogaakblpeaaDoor

namespace Go.Proofs.YtfpiogaakblpeaaDoor
open Go.RowKit

/-- the four named results, from block B on -/
structure Res4 (w : World) (B : Nat) (f0 f1 f2 f3 e a s : Value) : Prop where
  f : w.heap[B]? = some (.cells #[f0, f1, f2, f3] 26 (0, 0))
  e : w.heap[B + 1]? = some (.cells #[e] 36 (0, 0))
  a : w.heap[B + 2]? = some (.cells #[a] 3 (0, 0))
  s : w.heap[B + 3]? = some (.cells #[s] 9 (0, 0))

def capt (B : Nat) : Array Value := #[.pointer (some ⟨B, 0, none⟩), .pointer (some ⟨B + 1, 0, none⟩), .pointer (some ⟨B + 2, 0, none⟩), .pointer (some ⟨B + 3, 0, none⟩)]

def EndN (R : World → Prop) : Exit → Act → World → Prop := fun e a w => e = .normal ∧ a.defers = [] ∧ R w

theorem frame_lit (a b c d x : Value) : (#[a, b, c, d] ++ ((Array.replicate 21 undef).setIfInBounds 3 x).setIfInBounds 0 x : Array Value) = #[a, b, c, d, x, undef, undef, x, undef, undef, undef, undef, undef, undef, undef, undef, undef, undef, undef, undef, undef, undef, undef, undef, undef] := by
  apply Array.ext'
  rw [Array.toList_append, Array.toList_setIfInBounds, Array.toList_setIfInBounds, Array.toList_replicate]
  rfl

set_option maxHeartbeats 400000 in
set_option maxRecDepth 100000 in
theorem catch_idle (B : Nat) (w : World) :
    CallsD Tryd.prog 39 (capt B) .returning w fun e u' w' => e = .returned (.tuple #[]) ∧ u' = .returning ∧ w' = w := by
  refine callsD_of_wpS Tryd.func39 rfl fun c₀ cs hu => ?_
  apply wpS_seq
  apply wpS_region
  simp [wpOpsS, go_sem, recoverD, hu, Tryd.ntmps39, Exit.thenS, capt]
  refine wpS_of_wp (Code.wp_mono (Q := EndN fun w' => w' = w) ?_ ?_)
  · rintro e a' w' ⟨rfl, hd, rfl⟩
    cases c₀
    simp_all [bodyPostS, results, Tryd.results39]
  · clear hu
    rw [frame_lit]
    go_wp2
    exact ⟨rfl, rfl, rfl⟩

/-- what the worlds of the closure's last region are like: which of the four stores have been made -/
structure CatchC (W1 : World) (B q : Nat) (f0 f1 f2 f3 e1 a1 s1 : Value) (e0 pl : Int) (word : ByteArray) (listed : Array Bool) (W : World) : Prop where
  bel : Below B W1 W
  box : W.heap[q]? = some (.cells #[.int .i64 e0, .int .i64 pl, .string word] 71 (0, 0))
  f : W.heap[B]? = some (.cells (if listed.getD 7 false = true then #[.slice none 0 0, .int .i64 0, .int .i64 0, .slice none 0 0] else #[f0, f1, f2, f3]) 26 (0, 0))
  e : W.heap[B + 1]? = some (.cells (if listed.getD 8 false = true then #[.int .i64 e0] else #[e1]) 36 (0, 0))
  a : W.heap[B + 2]? = some (.cells (if listed.getD 9 false = true then #[.int .i64 pl] else #[a1]) 3 (0, 0))
  s : W.heap[B + 3]? = some (.cells (if listed.getD 10 false = true then #[.string word] else #[s1]) 9 (0, 0))
theorem CatchC.quiet {W1 : World} {B q : Nat} {f0 f1 f2 f3 e1 a1 s1 : Value} {e0 pl : Int} {word : ByteArray} {listed : Array Bool} {W : World} (h : CatchC W1 B q f0 f1 f2 f3 e1 a1 s1 e0 pl word listed W) {i : Nat} (hi : i < 7) :
    CatchC W1 B q f0 f1 f2 f3 e1 a1 s1 e0 pl word (listed.setIfInBounds i true) W :=
  ⟨h.bel, h.box, by rw [getD_set_ne false (by omega)]; exact h.f, by rw [getD_set_ne false (by omega)]; exact h.e, by rw [getD_set_ne false (by omega)]; exact h.a, by rw [getD_set_ne false (by omega)]; exact h.s⟩

section
variable {W1 : World} {B q : Nat} {f0 f1 f2 f3 e1 a1 s1 : Value} {e0 pl : Int} {word : ByteArray} {listed : Array Bool} {W : World}
theorem CatchC.st7 (h : CatchC W1 B q f0 f1 f2 f3 e1 a1 s1 e0 pl word listed W) (hq : B + 3 < q) (hf : W.heap[B]? = some (.cells #[f0, f1, f2, f3] 26 (0, 0))) (hun : listed.getD 7 true = false) :
    CatchC W1 B q f0 f1 f2 f3 e1 a1 s1 e0 pl word (listed.setIfInBounds 7 true) ((((W.setCell ⟨B, 0, none⟩ (.slice none 0 0)).setCell ⟨B, 1, none⟩ (.int .i64 0)).setCell ⟨B, 2, none⟩ (.int .i64 0)).setCell ⟨B, 3, none⟩ (.slice none 0 0)) := by
  have hup : (listed.setIfInBounds 7 true).getD 7 false = true := by have := getD_lt hun; simp [this]
  have hx : ∀ x, x ≠ B → ((((W.setCell ⟨B, 0, none⟩ (.slice none 0 0)).setCell ⟨B, 1, none⟩ (.int .i64 0)).setCell ⟨B, 2, none⟩ (.int .i64 0)).setCell ⟨B, 3, none⟩ (.slice none 0 0)).heap[x]? = W.heap[x]? := fun x hx => by
    rw [Below.heap_setCell _ _ _ _ hx, Below.heap_setCell _ _ _ _ hx, Below.heap_setCell _ _ _ _ hx, Below.heap_setCell _ _ _ _ hx]
  refine ⟨(((h.bel.setCell (p := ⟨B, 0, none⟩) (Nat.le_refl _) _).setCell (p := ⟨B, 1, none⟩) (Nat.le_refl _) _).setCell (p := ⟨B, 2, none⟩) (Nat.le_refl _) _).setCell (p := ⟨B, 3, none⟩) (Nat.le_refl _) _, ?_, ?_, ?_, ?_, ?_⟩
  · rw [hx q (by omega)]; exact h.box
  · rw [hup]; simp [World.setCell, Array.getElem?_modify, hf]
  · rw [hx _ (by omega), getD_set_ne false (by omega)]; exact h.e
  · rw [hx _ (by omega), getD_set_ne false (by omega)]; exact h.a
  · rw [hx _ (by omega), getD_set_ne false (by omega)]; exact h.s
theorem CatchC.st8 (h : CatchC W1 B q f0 f1 f2 f3 e1 a1 s1 e0 pl word listed W) (hq : B + 3 < q) (hf : W.heap[B + 1]? = some (.cells #[e1] 36 (0, 0))) (hun : listed.getD 8 true = false) :
    CatchC W1 B q f0 f1 f2 f3 e1 a1 s1 e0 pl word (listed.setIfInBounds 8 true) (W.setCell ⟨B + 1, 0, none⟩ (.int .i64 e0)) := by
  have hup : (listed.setIfInBounds 8 true).getD 8 false = true := by have := getD_lt hun; simp [this]
  have hx : ∀ x, x ≠ B + 1 → (W.setCell ⟨B + 1, 0, none⟩ (.int .i64 e0)).heap[x]? = W.heap[x]? := fun x hx => Below.heap_setCell _ _ _ _ hx
  refine ⟨h.bel.setCell (p := ⟨B + 1, 0, none⟩) (Nat.le_add_right _ _) _, ?_, ?_, ?_, ?_, ?_⟩
  · rw [hx q (by omega)]; exact h.box
  · rw [hx _ (by omega), getD_set_ne false (by omega)]; exact h.f
  · rw [hup]; simp [World.setCell, Array.getElem?_modify, hf]
  · rw [hx _ (by omega), getD_set_ne false (by omega)]; exact h.a
  · rw [hx _ (by omega), getD_set_ne false (by omega)]; exact h.s
theorem CatchC.st9 (h : CatchC W1 B q f0 f1 f2 f3 e1 a1 s1 e0 pl word listed W) (hq : B + 3 < q) (hf : W.heap[B + 2]? = some (.cells #[a1] 3 (0, 0))) (hun : listed.getD 9 true = false) :
    CatchC W1 B q f0 f1 f2 f3 e1 a1 s1 e0 pl word (listed.setIfInBounds 9 true) (W.setCell ⟨B + 2, 0, none⟩ (.int .i64 pl)) := by
  have hup : (listed.setIfInBounds 9 true).getD 9 false = true := by have := getD_lt hun; simp [this]
  have hx : ∀ x, x ≠ B + 2 → (W.setCell ⟨B + 2, 0, none⟩ (.int .i64 pl)).heap[x]? = W.heap[x]? := fun x hx => Below.heap_setCell _ _ _ _ hx
  refine ⟨h.bel.setCell (p := ⟨B + 2, 0, none⟩) (Nat.le_add_right _ _) _, ?_, ?_, ?_, ?_, ?_⟩
  · rw [hx q (by omega)]; exact h.box
  · rw [hx _ (by omega), getD_set_ne false (by omega)]; exact h.f
  · rw [hx _ (by omega), getD_set_ne false (by omega)]; exact h.e
  · rw [hup]; simp [World.setCell, Array.getElem?_modify, hf]
  · rw [hx _ (by omega), getD_set_ne false (by omega)]; exact h.s
theorem CatchC.st10 (h : CatchC W1 B q f0 f1 f2 f3 e1 a1 s1 e0 pl word listed W) (hq : B + 3 < q) (hf : W.heap[B + 3]? = some (.cells #[s1] 9 (0, 0))) (hun : listed.getD 10 true = false) :
    CatchC W1 B q f0 f1 f2 f3 e1 a1 s1 e0 pl word (listed.setIfInBounds 10 true) (W.setCell ⟨B + 3, 0, none⟩ (.string word)) := by
  have hup : (listed.setIfInBounds 10 true).getD 10 false = true := by have := getD_lt hun; simp [this]
  have hx : ∀ x, x ≠ B + 3 → (W.setCell ⟨B + 3, 0, none⟩ (.string word)).heap[x]? = W.heap[x]? := fun x hx => Below.heap_setCell _ _ _ _ hx
  refine ⟨h.bel.setCell (p := ⟨B + 3, 0, none⟩) (Nat.le_add_right _ _) _, ?_, ?_, ?_, ?_, ?_⟩
  · rw [hx q (by omega)]; exact h.box
  · rw [hx _ (by omega), getD_set_ne false (by omega)]; exact h.f
  · rw [hx _ (by omega), getD_set_ne false (by omega)]; exact h.e
  · rw [hx _ (by omega), getD_set_ne false (by omega)]; exact h.a
  · rw [hup]; simp [World.setCell, Array.getElem?_modify, hf]
end

theorem assert_fault (v : Value) (w : World) : (Instr.typeAssert (.iface 71 v) 20 71 true).run Tryd.prog w = .ok (.tuple #[v, .bool true]) w := by
  simp [Instr.typeAssert, run_underlying Tryd.underlying71, Result.andThen]

set_option maxHeartbeats 1600000 in
set_option maxRecDepth 100000 in
theorem catch_fault (B : Nat) (f0 f1 f2 f3 e1 a1 s1 : Value) (e0 pl : Int) (word : ByteArray) (w : World) (h : Res4 w B f0 f1 f2 f3 e1 a1 s1) :
    CallsD Tryd.prog 39 (capt B) (.panicking [{ v := .iface 71 (.agg #[.int .i64 e0, .int .i64 pl, .string word]), recovered := false }]) w fun e u' w' =>
      e = .returned (.tuple #[]) ∧ u' = .panicking [{ v := .iface 71 (.agg #[.int .i64 e0, .int .i64 pl, .string word]), recovered := true }] ∧
      Res4 w' B (.slice none 0 0) (.int .i64 0) (.int .i64 0) (.slice none 0 0) (.int .i64 e0) (.int .i64 pl) (.string word) ∧ Below B w w' := by
  have hB := (Array.getElem?_eq_some_iff.1 h.s).1
  have x0 : w.cell? ⟨B, 0, none⟩ = some f0 := by simp [World.cell?, h.f]
  have x1 : w.cell? ⟨B, 1, none⟩ = some f1 := by simp [World.cell?, h.f]
  have x2 : w.cell? ⟨B, 2, none⟩ = some f2 := by simp [World.cell?, h.f]
  have x3 : w.cell? ⟨B, 3, none⟩ = some f3 := by simp [World.cell?, h.f]
  have x4 : w.cell? ⟨B + 1, 0, none⟩ = some e1 := by simp [World.cell?, h.e]
  have x5 : w.cell? ⟨B + 2, 0, none⟩ = some a1 := by simp [World.cell?, h.a]
  have x6 : w.cell? ⟨B + 3, 0, none⟩ = some s1 := by simp [World.cell?, h.s]
  have y0 : ∀ j, w.frozen? ⟨B, j, none⟩ = false := fun j => by simp [World.frozen?, h.f]
  have y4 : w.frozen? ⟨B + 1, 0, none⟩ = false := by simp [World.frozen?, h.e]
  have y5 : w.frozen? ⟨B + 2, 0, none⟩ = false := by simp [World.frozen?, h.a]
  have y6 : w.frozen? ⟨B + 3, 0, none⟩ = false := by simp [World.frozen?, h.s]
  have HR := Lib.hid h
  clear h
  refine callsD_of_wpS Tryd.func39 rfl fun c₀ cs hu => ?_
  apply wpS_seq
  apply wpS_region
  simp [wpOpsS, go_sem, recoverD, hu, Tryd.ntmps39, Exit.thenS, capt]
  refine wpS_of_wp (Code.wp_mono (Q := EndN fun w' => Res4 w' B (.slice none 0 0) (.int .i64 0) (.int .i64 0) (.slice none 0 0) (.int .i64 e0) (.int .i64 pl) (.string word) ∧ Below B w w') ?_ ?_)
  · rintro e a' w' ⟨rfl, hd, hr, hb⟩
    cases c₀
    simp_all [bodyPostS, results, Tryd.results39]
  · clear hu
    rw [frame_lit]
    have hta := assert_fault
    have n0 : ¬ w.heap.size = B := by omega
    have n1 : ¬ w.heap.size = B + 1 := by omega
    have n2 : ¬ w.heap.size = B + 2 := by omega
    have n3 : ¬ w.heap.size = B + 3 := by omega
    have m0 : ¬ B = w.heap.size := by omega
    have m1 : ¬ B + 1 = w.heap.size := by omega
    have m2 : ¬ B + 2 = w.heap.size := by omega
    have m3 : ¬ B + 3 = w.heap.size := by omega
    go_wp2
    have HW1 : Hid (Res4 (w.alloc (.cells #[.int .i64 e0, .int .i64 pl, .string word] 71)) B f0 f1 f2 f3 e1 a1 s1) := Lib.hid
      ⟨(Lib.alloc_old _ _ _ (by omega)).trans HR.out.f, (Lib.alloc_old _ _ _ (by omega)).trans HR.out.e, (Lib.alloc_old _ _ _ (by omega)).trans HR.out.a, (Lib.alloc_old _ _ _ (by omega)).trans HR.out.s⟩
    have HBOX : Hid ((w.alloc (.cells #[.int .i64 e0, .int .i64 pl, .string word] 71)).heap[w.heap.size]? = some (.cells #[.int .i64 e0, .int .i64 pl, .string word] 71 (0, 0))) := Lib.hid (new_heap _ _ _)
    have HBEL : Hid (Below B w (w.alloc (.cells #[.int .i64 e0, .int .i64 pl, .string word] 71))) := Lib.hid ((below_alloc _ _).mono (by omega))
    generalize w.alloc (.cells #[.int .i64 e0, .int .i64 pl, .string word] 71) = W1 at *
    clear x0 x1 x2 x3 x4 x5 x6 y0 y4 y5 y6
    clear hta n0 n1 n2 n3 m0 m1 m2 m3
    have C0 : Hid (CatchC W1 B w.heap.size f0 f1 f2 f3 e1 a1 s1 e0 pl word (Array.replicate 11 false) W1.drew) := Lib.hid
      ⟨(Below.refl _ _).drew, HBOX.out, HW1.out.f, HW1.out.e, HW1.out.a, HW1.out.s⟩
    refine wp_region_sem_lit (CatchC W1 B w.heap.size f0 f1 f2 f3 e1 a1 s1 e0 pl word) (by kernel_rfl) (by kernel_rfl) (by kernel_rfl) C0.out ?_
    refine sem_step (.agg #[.slice none 0 0, .int .i64 0, .int .i64 0, .slice none 0 0]) rfl rfl (fun listed W hun hC => ?_) ?_
    · go_simp
      exact hC.quiet (by decide)
    go_simp
    refine sem_step (.pointer (some ⟨w.heap.size, 0, none⟩)) rfl rfl (fun listed W hun hC => ?_) ?_
    · go_simp
      exact hC.quiet (by decide)
    go_simp
    refine sem_step (.int .i64 e0) rfl rfl (fun listed W hun hC => ?_) ?_
    · have hc : W.cell? ⟨w.heap.size, 0, none⟩ = some (.int .i64 e0) := by simp [World.cell?, hC.box]
      go_simp
      exact hC.quiet (by decide)
    go_simp
    refine sem_step (.pointer (some ⟨w.heap.size, 1, none⟩)) rfl rfl (fun listed W hun hC => ?_) ?_
    · go_simp
      exact hC.quiet (by decide)
    go_simp
    refine sem_step (.int .i64 pl) rfl rfl (fun listed W hun hC => ?_) ?_
    · have hc : W.cell? ⟨w.heap.size, 1, none⟩ = some (.int .i64 pl) := by simp [World.cell?, hC.box]
      go_simp
      exact hC.quiet (by decide)
    go_simp
    refine sem_step (.pointer (some ⟨w.heap.size, 2, none⟩)) rfl rfl (fun listed W hun hC => ?_) ?_
    · go_simp
      exact hC.quiet (by decide)
    go_simp
    refine sem_step (.string word) rfl rfl (fun listed W hun hC => ?_) ?_
    · have hc : W.cell? ⟨w.heap.size, 2, none⟩ = some (.string word) := by simp [World.cell?, hC.box]
      go_simp
      exact hC.quiet (by decide)
    go_simp
    refine sem_step undef rfl rfl (fun listed W hun hC => ?_) ?_
    · have hlow : listed.getD 7 false = false := getD_low hun
      have hup : (listed.setIfInBounds 7 true).getD 7 false = true := by have := getD_lt hun; simp [this]
      have hf := hC.f
      rw [hlow] at hf
      simp only [Bool.false_eq_true, if_false] at hf
      have x0 : W.cell? ⟨B, 0, none⟩ = some f0 := by simp [World.cell?, hf]
      have x1 : W.cell? ⟨B, 1, none⟩ = some f1 := by simp [World.cell?, hf]
      have x2 : W.cell? ⟨B, 2, none⟩ = some f2 := by simp [World.cell?, hf]
      have x3 : W.cell? ⟨B, 3, none⟩ = some f3 := by simp [World.cell?, hf]
      have y0 : W.frozen? ⟨B, 0, none⟩ = false := by simp [World.frozen?, hf]
      have y1 : W.frozen? ⟨B, 1, none⟩ = false := by simp [World.frozen?, hf]
      have y2 : W.frozen? ⟨B, 2, none⟩ = false := by simp [World.frozen?, hf]
      have y3 : W.frozen? ⟨B, 3, none⟩ = false := by simp [World.frozen?, hf]
      have hlt := (Array.getElem?_eq_some_iff.1 hf).1
      have HC := Lib.hid hC
      have HF := Lib.hid hf
      have HUN := Lib.hid hun
      clear hC hf hup hlow hun
      go_simp
      exact HC.out.st7 (by omega) HF.out HUN.out
    go_simp
    refine sem_step undef rfl rfl (fun listed W hun hC => ?_) ?_
    · have hlow : listed.getD 8 false = false := getD_low hun
      have hup : (listed.setIfInBounds 8 true).getD 8 false = true := by have := getD_lt hun; simp [this]
      have hf := hC.e
      rw [hlow] at hf
      simp only [Bool.false_eq_true, if_false] at hf
      have x0 : W.cell? ⟨B + 1, 0, none⟩ = some e1 := by simp [World.cell?, hf]
      have y0 : W.frozen? ⟨B + 1, 0, none⟩ = false := by simp [World.frozen?, hf]
      have hlt := (Array.getElem?_eq_some_iff.1 hf).1
      have HC := Lib.hid hC
      have HF := Lib.hid hf
      have HUN := Lib.hid hun
      clear hC hf hup hlow hun
      go_simp
      exact HC.out.st8 (by omega) HF.out HUN.out
    go_simp
    refine sem_step undef rfl rfl (fun listed W hun hC => ?_) ?_
    · have hlow : listed.getD 9 false = false := getD_low hun
      have hup : (listed.setIfInBounds 9 true).getD 9 false = true := by have := getD_lt hun; simp [this]
      have hf := hC.a
      rw [hlow] at hf
      simp only [Bool.false_eq_true, if_false] at hf
      have x0 : W.cell? ⟨B + 2, 0, none⟩ = some a1 := by simp [World.cell?, hf]
      have y0 : W.frozen? ⟨B + 2, 0, none⟩ = false := by simp [World.frozen?, hf]
      have hlt := (Array.getElem?_eq_some_iff.1 hf).1
      have HC := Lib.hid hC
      have HF := Lib.hid hf
      have HUN := Lib.hid hun
      clear hC hf hup hlow hun
      go_simp
      exact HC.out.st9 (by omega) HF.out HUN.out
    go_simp
    refine sem_step undef rfl rfl (fun listed W hun hC => ?_) ?_
    · have hlow : listed.getD 10 false = false := getD_low hun
      have hup : (listed.setIfInBounds 10 true).getD 10 false = true := by have := getD_lt hun; simp [this]
      have hf := hC.s
      rw [hlow] at hf
      simp only [Bool.false_eq_true, if_false] at hf
      have x0 : W.cell? ⟨B + 3, 0, none⟩ = some s1 := by simp [World.cell?, hf]
      have y0 : W.frozen? ⟨B + 3, 0, none⟩ = false := by simp [World.frozen?, hf]
      have hlt := (Array.getElem?_eq_some_iff.1 hf).1
      have HC := Lib.hid hC
      have HF := Lib.hid hf
      have HUN := Lib.hid hun
      clear hC hf hup hlow hun
      go_simp
      exact HC.out.st10 (by omega) HF.out HUN.out
    go_simp
    refine yLex_end (fun listed w' hall hC => ?_)
    have h7 : listed.getD 7 false = true := by have := hall 7 (by decide); simpa using this
    have h8 : listed.getD 8 false = true := by have := hall 8 (by decide); simpa using this
    have h9 : listed.getD 9 false = true := by have := hall 9 (by decide); simpa using this
    have h10 : listed.getD 10 false = true := by have := hall 10 (by decide); simpa using this
    obtain ⟨hbl, _, hf, he, ha, hs⟩ := hC
    rw [h7] at hf
    rw [h8] at he
    rw [h9] at ha
    rw [h10] at hs
    simp only [if_true] at hf he ha hs
    exact ⟨rfl, rfl, ⟨hf, he, ha, hs⟩, HBEL.out.trans hbl⟩
end Go.Proofs.YtfpiogaakblpeaaDoor
