/- A term that the page's reader is reading: its block, the row of its kids, the names that are bound. -/
import Derived.Test.YtefjgpahgffmfaaDoorQi
import Derived.Test.YtefjgpahgffmfaaDoorSk3
import Derived.Test.YtefjgpahgffmfaaDoorRt
namespace Go.Proofs.YtefjgpahgffmfaaDoor
open Go.RowKit

/-- behind some of the kids: the reader's mode; the result's block, the term's block, the kids' row, the names bound -/
structure GQ (E : REnv) (lv : Value) (b : Nat) (w : World) (k0 i0 j0 n0 : Int) (nv : Value) (nm : List (List UInt8)) (m : Md) (bv : Value) (bnd : List (List UInt8)) (rows : List (TT × Value)) (v : Value) (wr : World) : Prop where
  old : b < w.heap.size
  lvs : ∀ x, lv.ownBlock = some x → x < w.heap.size
  nvs : ∀ x, nv.ownBlock = some x → x ≠ w.heap.size ∧ x ≠ w.heap.size + 1 ∧ some x ≠ v.ownBlock
  rq : Rq E lv b wr nv nm m
  gr : w.grownBy wr (some b)
  res : wr.heap[w.heap.size]? = some (.cells zero5 24 (0, 0))
  box : wr.heap[w.heap.size + 1]? = some (.cells #[.int .i64 k0, .int .i64 i0, .int .i64 j0, .int .i64 n0, .slice none 0 0] 24 (0, 0))
  own : wr.ownsRow (w.heap.size + 2) 24 5 v rows.length (kidCells rows)
  hasB : Has wr 1 bv bnd.length (textRow bnd)
  bfar : ∀ x, bv.ownBlock = some x → w.heap.size + 2 ≤ x ∧ some x ≠ v.ownBlock
  kids : m.isBad = false → ∀ p ∈ rows, RepTS wr (fun x => w.heap.size + 2 ≤ x ∧ some x ≠ v.ownBlock) p.1.kids p.2 ∧ p.1.in4

section
variable {E : REnv} {lv : Value} {b : Nat} {w : World} {k0 i0 j0 n0 : Int} {nv nv' : Value} {nm nm' : List (List UInt8)} {m m' : Md} {bv : Value} {bnd : List (List UInt8)} {rows : List (TT × Value)} {v : Value} {wr w6 : World}

theorem Rq.same {W W' : World} (h : Rq E lv b W nv nm m) (hsz : W.heap.size ≤ W'.heap.size) (hb : W'.heap[b]? = W.heap[b]?) (hl : ∀ x, lv.ownBlock = some x → W'.heap[x]? = W.heap[x]?) (hn : ∀ x, nv.ownBlock = some x → W'.heap[x]? = W.heap[x]?) : Rq E lv b W' nv nm m := by
  obtain ⟨kk, x, hc, hm⟩ := h.cells
  exact { h with cells := ⟨kk, x, by rw [hb]; exact hc, hm⟩, has := h.has.same hsz hl, hasN := h.hasN.same hsz hn }

theorem GQ.big (h : GQ E lv b w k0 i0 j0 n0 nv nm m bv bnd rows v wr) : w.heap.size + 2 ≤ wr.heap.size := (Array.getElem?_eq_some_iff.1 h.box).1

/-- the reader's block turns, and memory is made -/
theorem GQ.move (h : GQ E lv b w k0 i0 j0 n0 nv nm m bv bnd rows v wr) (hr : Rq E lv b w6 nv' nm' m') (g : wr.grownBy w6 (some b)) (hnv : nv' = nv ∨ ∀ x, nv'.ownBlock = some x → wr.heap.size ≤ x) (hm : m'.isBad = false → m.isBad = false) : GQ E lv b w k0 i0 j0 n0 nv' nm' m' bv bnd rows v w6 := by
  have hlt := h.old
  have hbig := h.big
  have hres := h.res
  have hbox := h.box
  refine { old := h.old, lvs := h.lvs, nvs := ?_, rq := hr, gr := grown_trans h.gr g, res := ?_, box := ?_, own := ?_, hasB := ?_, bfar := h.bfar, kids := ?_ }
  · rcases hnv with rfl | hnv
    · exact h.nvs
    · intro x hx
      have := hnv x hx
      exact ⟨by omega, by omega, fun he => by have := h.own.lt x he.symm; omega⟩
  · rw [g.block _ (by omega) (by simp; omega)]; exact hres
  · rw [g.block _ (by omega) (by simp; omega)]; exact hbox
  · exact h.own.kept g (.inr (fun he => by have := (h.own.lt b he).1; omega))
  · exact h.hasB.grown g (fun he => by have := (h.bfar b he).1; omega)
  · intro hb p hp
    obtain ⟨h1, h2⟩ := h.kids (hm hb) p hp
    exact ⟨h1.kept g.size fun x hx hxl => ⟨g.block x hxl (by simp; omega), hx⟩, h2⟩
theorem GQ.drewN (h : GQ E lv b w k0 i0 j0 n0 nv nm m bv bnd rows v wr) (n : Nat) : GQ E lv b w k0 i0 j0 n0 nv nm m bv bnd rows v (wr.drewN n) :=
  h.move (h.rq.drewN n) (grown_drewN (grown_refl _ _) n) (.inl rfl) id
theorem GQ.below (h : GQ E lv b w k0 i0 j0 n0 nv nm m bv bnd rows v wr) (hb : Below wr.heap.size wr w6) : GQ E lv b w k0 i0 j0 n0 nv nm m bv bnd rows v w6 :=
  h.move (h.rq.kept hb) (grown_below hb) (.inl rfl) id
theorem GQ.alloc (h : GQ E lv b w k0 i0 j0 n0 nv nm m bv bnd rows v wr) (o : Obj) : GQ E lv b w k0 i0 j0 n0 nv nm m bv bnd rows v (wr.alloc o) := h.below (below_alloc _ _)
theorem GQ.turn (h : GQ E lv b w k0 i0 j0 n0 nv nm m bv bnd rows v wr) (ht : TurnQ E lv b wr nv nm m' w6) (hm : m'.isBad = false → m.isBad = false) : GQ E lv b w k0 i0 j0 n0 nv nm m' bv bnd rows v w6 := h.move ht.1 ht.2 (.inl rfl) hm
theorem GQ.named (h : GQ E lv b w k0 i0 j0 n0 nv nm m bv bnd rows v wr) (ht : NamedQ E lv b wr nm' m w6) : ∃ nv', GQ E lv b w k0 i0 j0 n0 nv' nm' m bv bnd rows v w6 := by
  obtain ⟨nv', h1, h2, h3⟩ := ht
  exact ⟨nv', h.move h1 h2 (.inr h3) id⟩
/-- other names are bound -/
theorem GQ.bound (h : GQ E lv b w k0 i0 j0 n0 nv nm m bv bnd rows v wr) {bv' : Value} {bnd' : List (List UInt8)} (hB : Has wr 1 bv' bnd'.length (textRow bnd')) (hf : ∀ x, bv'.ownBlock = some x → w.heap.size + 2 ≤ x ∧ some x ≠ v.ownBlock) : GQ E lv b w k0 i0 j0 n0 nv nm m bv' bnd' rows v wr :=
  { h with hasB := hB, bfar := hf }

/-- a kid more -/
theorem GQ.push {wa w7 : World} (hG : GQ E lv b w k0 i0 j0 n0 nv nm m bv bnd rows v wa) {B : Nat} (hB : ∀ x, v.ownBlock = some x → x < B) (hDB : w.heap.size + 2 ≤ B)
    {t : TT} {v1 : Value} (hrep : m.isBad = false → RepTS wa (fun x => B ≤ x) t.kids v1 ∧ t.in4) {g cap : Nat} (hgrow7 : wa.grownBy w7 v.ownBlock) (hat : v.ownBlock = some g ∨ g = wa.heap.size)
    (hown7 : w7.ownsRow (w.heap.size + 2) 24 5 (.slice (some ⟨g, 0, none⟩) (rows.length + 1) cap) (rows.length + 1) (kidCells rows ++ [.int .i64 t.kd, .int .i64 t.ni, .int .i64 t.nj, .int .i64 t.nn, v1])) :
    GQ E lv b w k0 i0 j0 n0 nv nm m bv bnd (rows ++ [(t, v1)]) (.slice (some ⟨g, 0, none⟩) (rows.length + 1) cap) w7 := by
  have hlt := hG.old
  have hbig := hG.big
  have hs7 := hgrow7.size
  have hvlt := fun x hx => hG.own.lt x hx
  have hx : ∀ x, x < wa.heap.size → some x ≠ v.ownBlock → w7.heap[x]? = wa.heap[x]? := fun x h1 h3 => hgrow7.block x h1 h3
  have hlow : ∀ x, x < w.heap.size + 2 → w7.heap[x]? = wa.heap[x]? := fun x hl => hx x (by omega) (fun he => by have := hvlt x he.symm; omega)
  have hnvl := hG.rq.hasN.own_lt
  have hbvl := hG.hasB.own_lt
  have hother : ∀ x, x < wa.heap.size → some x ≠ v.ownBlock → some x ≠ (Value.slice (some ⟨g, 0, none⟩) (rows.length + 1) cap).ownBlock := fun x hxl h3 => by
    simp only [Value.ownBlock]
    rcases hat with h | h
    · rw [← h]; exact h3
    · simp; omega
  refine { old := hlt, lvs := hG.lvs, nvs := ?_, rq := ?_, gr := ?_, res := ?_, box := ?_, own := ?_, hasB := ?_, bfar := ?_, kids := ?_ }
  · intro x hxn
    exact ⟨(hG.nvs x hxn).1, (hG.nvs x hxn).2.1, hother x (hnvl x hxn) (hG.nvs x hxn).2.2⟩
  · exact hG.rq.same hs7 (hlow b (by omega)) (fun x hxl => hlow x (by have := hG.lvs x hxl; omega)) (fun x hxn => hx x (hnvl x hxn) (hG.nvs x hxn).2.2)
  · have g := hG.gr
    exact ⟨hgrow7.os.trans g.os, hgrow7.tape.trans g.tape, hgrow7.output.trans g.output, Nat.le_trans g.size hs7, fun x hl hn => (hlow x (by omega)).trans (g.block x hl hn)⟩
  · rw [hlow _ (by omega)]; exact hG.res
  · rw [hlow _ (by omega)]; exact hG.box
  · simpa [kidCells_append, kidCells] using hown7
  · exact hG.hasB.same hs7 (fun x hxb => hx x (hbvl x hxb) (hG.bfar x hxb).2)
  · intro x hxb
    exact ⟨(hG.bfar x hxb).1, hother x (hbvl x hxb) (hG.bfar x hxb).2⟩
  · intro hm p hp
    rcases List.mem_append.1 hp with hp | hp
    · obtain ⟨h1, h2⟩ := hG.kids hm p hp
      exact ⟨h1.kept (by omega) fun x hx1 hxl => ⟨hx x hxl hx1.2, hx1.1, hother x hxl hx1.2⟩, h2⟩
    · obtain rfl : p = (t, v1) := by simpa using hp
      obtain ⟨h1, h2⟩ := hrep hm
      exact ⟨h1.kept (by omega) fun x hx1 hxl => ⟨hx x hxl (fun he => by have := hB x he.symm; omega), by omega, hother x hxl (fun he => by have := hB x he.symm; omega)⟩, h2⟩

/-- the term's block alone turns -/
theorem GQ.setbox (h : GQ E lv b w k0 i0 j0 n0 nv nm m bv bnd rows v wr) (off : Nat) (u : Value) {k1 i1 j1 n1 : Int} (hc : (#[.int .i64 k0, .int .i64 i0, .int .i64 j0, .int .i64 n0, .slice none 0 0] : Array Value).setIfInBounds off u = #[.int .i64 k1, .int .i64 i1, .int .i64 j1, .int .i64 n1, .slice none 0 0]) :
    GQ E lv b w k1 i1 j1 n1 nv nm m bv bnd rows v (wr.setCell ⟨w.heap.size + 1, off, none⟩ u) := by
  have hlt := h.old
  have hbig := h.big
  have g1 : wr.grownBy (wr.setCell ⟨w.heap.size + 1, off, none⟩ u) (some (w.heap.size + 1)) := grown_set (grown_refl _ _) off u
  have hx : ∀ x, x ≠ w.heap.size + 1 → (wr.setCell ⟨w.heap.size + 1, off, none⟩ u).heap[x]? = wr.heap[x]? := fun x hx => Below.heap_setCell _ _ _ _ hx
  refine { old := hlt, lvs := h.lvs, nvs := h.nvs, rq := ?_, gr := ?_, res := ?_, box := ?_, own := ?_, hasB := ?_, bfar := h.bfar, kids := ?_ }
  · exact h.rq.same g1.size (hx b (by omega)) (fun x hxl => hx x (by have := h.lvs x hxl; omega)) (fun x hxn => hx x (h.nvs x hxn).2.1)
  · have g := h.gr
    exact ⟨g1.os.trans g.os, g1.tape.trans g.tape, g1.output.trans g.output, Nat.le_trans g.size g1.size, fun x hl hn => (hx x (by omega)).trans (g.block x hl hn)⟩
  · rw [hx _ (by omega)]; exact h.res
  · rw [set1_at h.box off u, hc]
  · exact h.own.kept g1 (.inr (fun he => by have := (h.own.lt _ he).1; omega))
  · exact h.hasB.grown g1 (fun he => by have := (h.bfar _ he).1; omega)
  · intro hm p hp
    obtain ⟨h1, h2⟩ := h.kids hm p hp
    exact ⟨h1.kept g1.size fun x hx1 hxl => ⟨hx x (by omega), hx1⟩, h2⟩

/-- what a call of the page's Term ends in -/
def TermQPost (E : REnv) (lv : Value) (b : Nat) (w : World) (nv : Value) (nm : List (List UInt8)) (r : RR TT) (e : Ending) (w' : World) : Prop :=
  ∃ (t : TT) (a : Option Addr) (l c : Nat) (nv' : Value), e = .returned (termV t.kd t.ni t.nj t.nn (.slice a l c)) ∧ Rq E lv b w' nv' nm r.md ∧ w.grownBy w' (some b) ∧ (nv' = nv ∨ ∀ x, nv'.ownBlock = some x → w.heap.size ≤ x) ∧ (∀ t' k', r = .ok t' k' → t' = t ∧ RepTS w' (fun x => w.heap.size ≤ x) t.kids (.slice a l c) ∧ t.in4)
/-- its contract, in either mode -/
def TermQC (E : REnv) (lv : Value) (b : Nat) (fuel : Nat) : Prop :=
  ∀ (nv : Value) (nm : List (List UInt8)) (m : Md) (want : Nat) (w : World), Rq E lv b w nv nm m → (∀ k, m = .ok k → E.l.length < k + fuel ∧ nm.length + E.l.length ≤ 2199023255552 + k) → want ≤ 2 →
    Calls Tryd.prog 48 #[.pointer (some ⟨b, 0, none⟩), .int .i64 want] w (TermQPost E lv b w nv nm (m.go (termM E fuel nm want)))

/-- the result laid into its block: the blocks -/
theorem GQ.final (h : GQ E lv b w k0 i0 j0 n0 nv nm m bv bnd rows v wr) (a c d e : Value) {W : World} (hW : set5 (wr.setCell ⟨w.heap.size + 1, 4, none⟩ v) w.heap.size a c d e v = W) :
    W.heap[w.heap.size]? = some (.cells #[a, c, d, e, v] 24 (0, 0)) ∧ Rq E lv b W nv nm m ∧ w.grownBy W (some b) ∧ (m.isBad = false → RepTS W (fun x => w.heap.size ≤ x) (rows.map Prod.fst) v) := by
  subst hW
  have hlt := h.old
  have hbig := h.big
  have g1 : wr.grownBy (wr.setCell ⟨w.heap.size + 1, 4, none⟩ v) (some (w.heap.size + 1)) := grown_set (grown_refl _ _) 4 v
  have g5 := set5_grown (wr.setCell ⟨w.heap.size + 1, 4, none⟩ v) w.heap.size a c d e v
  have hsz : (set5 (wr.setCell ⟨w.heap.size + 1, 4, none⟩ v) w.heap.size a c d e v).heap.size = wr.heap.size := (set5_size _ _ _ _ _ _ _).trans (by simp [World.setCell])
  have hx : ∀ x, x ≠ w.heap.size → x ≠ w.heap.size + 1 → (set5 (wr.setCell ⟨w.heap.size + 1, 4, none⟩ v) w.heap.size a c d e v).heap[x]? = wr.heap[x]? := fun x h1 h2 => (set5_other _ _ _ _ _ _ _ h1).trans (Below.heap_setCell _ _ _ _ h2)
  refine ⟨set5_at ((Below.heap_setCell _ _ _ _ (show w.heap.size ≠ w.heap.size + 1 by omega)).trans h.res) a c d e v, ?_, ?_, fun hm => ?_⟩
  · exact h.rq.same (by omega) (hx b (by omega) (by omega)) (fun x hxl => hx x (by have := h.lvs x hxl; omega) (by have := h.lvs x hxl; omega)) (fun x hxn => hx x (h.nvs x hxn).1 (h.nvs x hxn).2.1)
  · have g := h.gr
    exact ⟨(g5.os.trans g1.os).trans g.os, (g5.tape.trans g1.tape).trans g.tape, (g5.output.trans g1.output).trans g.output, by have := g.size; omega, fun x hl hn => (hx x (by omega) (by omega)).trans (g.block x hl hn)⟩
  · have hown1 := (h.own.kept g1 (.inr (fun he => by have := (h.own.lt _ he).1; omega))).kept g5 (.inr (fun he => by have := (h.own.lt _ he).1; omega))
    refine repTS_of_owns hown1 (fun g hg => by have := (h.own.lt g hg).1; omega) fun p hp => ?_
    obtain ⟨h1, h2⟩ := h.kids hm p hp
    exact ⟨h1.kept (by omega) fun x hx1 hxl => ⟨hx x (by omega) (by omega), by omega⟩, h2⟩
end
end Go.Proofs.YtefjgpahgffmfaaDoor
