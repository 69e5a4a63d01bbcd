/- Walks of the reader's term behind a fault, and of given. The reader's list: the letters behind a list's word, read one by one; the loop's body, its frames, what holds ahead of a round. The regions of the reader's list that read a term and append it to the kids, over a frame of which only what they read is known. A region of the reader's list that reads a term and appends it. -/
import Derived.Test.YtfklmcmoackepaaDoorSg
namespace Go.Proofs.YtfklmcmoackepaaDoor
open Go.RowKit

section
variable {E : REnv} {lv : Value} {en : Int} {b : Nat} {w : World} {nv : Value} {nm : List (List UInt8)}

/-- the result's cells laid, and the result -/
theorem zero_res {W : World} {m : Md} (h0 : Rr E lv en b w nv nm m) {m' : Md} (ht : Turn E lv en b w nv nm m' W) (hres : W.heap[w.heap.size]? = some (.cells zero5 24 (0, 0))) (a c d e f : Value) :
    Turn E lv en b w nv nm m' (set5 W w.heap.size a c d e f) ∧ (set5 W w.heap.size a c d e f).heap[w.heap.size]? = some (.cells #[a, c, d, e, f] 24 (0, 0)) :=
  ⟨set5_turn h0 (Nat.le_refl _) ht a c d e f, set5_at hres a c d e f⟩

theorem TermPost.of_bad {w' : World} {q : Nat} (ht : Turn E lv en b w nv nm (.bad q) w') : TermPost E lv en b w nv nm (.bad q) (.returned (termV 0 0 0 0 (.slice none 0 0))) w' :=
  ⟨.node 0 0 0 0 [], none, 0, 0, rfl, ht, (fun t' k' h => by cases h)⟩

set_option maxHeartbeats 1000000 in
set_option maxRecDepth 100000 in
/-- term, behind a fault -/
theorem term_bad (want : Int) {q : Nat} (h : Rr E lv en b w nv nm (.bad q)) :
    Calls Tryd.prog 31 #[.pointer (some ⟨b, 0, none⟩), .int .i64 want] w (TermPost E lv en b w nv nm (.bad q)) := by
  have HR := Lib.hid (h.kept (below_alloc w (.cells #[.int .i64 0, .int .i64 0, .int .i64 0, .int .i64 0, .slice none 0 0] 24)))
  have hres : (w.alloc (.cells #[.int .i64 0, .int .i64 0, .int .i64 0, .int .i64 0, .slice none 0 0] 24)).heap[w.heap.size]? = some (.cells zero5 24 (0, 0)) := new_heap _ _ _
  obtain ⟨r0, r1, r2, r3, r4, g0, g1, g2, g3, g4⟩ := cells5 hres
  obtain ⟨kk, x', h0, h1, h2, c0, c1, c2, c3, c6, c7⟩ := HR.out.at'
  simp only [Md.isBad] at c6
  clear h h0 h1 h2 hres
  go_enter Tryd.func31, Tryd.ntmps31
  go_wp2
  exact bodyPost_ret (v := termV 0 0 0 0 (.slice none 0 0)) (by simp [results, Tryd.results31, go_sem, r0, r1, r2, r3, r4, termV]) rfl (TermPost.of_bad ⟨HR.out, grown_below (below_alloc _ _)⟩)

theorem term_m {fuel : Nat} (ih : TermC E lv en b fuel) {m : Md} (want : Nat) (h : Rr E lv en b w nv nm m) (hm : ∀ k, m = .ok k → E.l.length < k + fuel ∧ nm.length + E.l.length ≤ 2199023255552 + k) (hw : want ≤ 2) :
    Calls Tryd.prog 31 #[.pointer (some ⟨b, 0, none⟩), .int .i64 want] w (TermPost E lv en b w nv nm (m.go (termM E fuel nm want))) := by
  cases m with
  | ok k => exact ih nv nm k want w h (hm k rfl).1 (hm k rfl).2 hw
  | bad q => exact term_bad want h

theorem Tryd.infoTerm : (Tryd.prog.info? 24).map (fun i => (i.zero, i.size, i.bytes)) = some (some (.agg #[.int .i64 0, .int .i64 0, .int .i64 0, .int .i64 0, .slice none 0 0]), 5, 56) := by kernel_rfl

theorem own_form {w : World} {base size n : Nat} {e : TypeId} {v : Value} {xs : List Value} (h : w.ownsRow base e size v n xs) : ∃ a c, v = .slice a n c := by
  rcases h.2 with ⟨rfl, rfl⟩ | ⟨g, c, u, rfl, _⟩
  · exact ⟨none, 0, rfl⟩
  · exact ⟨_, _, rfl⟩
theorem md_good {α : Type} (m : Md) (f : Nat → RR α) : (m.go f).md.isBad = false → m.isBad = false := by
  cases m <;> simp [Md.go, RR.md, Md.isBad]
/-- what a symbol is given -/
def giveM (F : List (List UInt8) → Nat → Nat → RR TT) (outer : List (List UInt8)) : Nat → List TT → Nat → RR (List TT)
  | 0, acc, k => .ok acc k
  | c + 1, acc, k => (F outer 2 k).bind fun t k' => giveM F outer c (acc ++ [t]) k'

theorem new_row5 {w7 : World} {base g n cap : Nat} {e : TypeId} {rows : List (TT × Value)} (h : w7.ownsRow base e 5 (.slice (some ⟨g, 0, none⟩) (n + 1) cap) (n + 1) (kidCells rows ++ zero5.toList)) (hn : rows.length = n := by rfl) :
    base ≤ g ∧ w7.cell? ⟨g, n * 5, none⟩ = some (.int .i64 0) ∧ w7.cell? ⟨g, n * 5 + 1, none⟩ = some (.int .i64 0) ∧ w7.cell? ⟨g, n * 5 + 2, none⟩ = some (.int .i64 0) ∧ w7.cell? ⟨g, n * 5 + 3, none⟩ = some (.int .i64 0) ∧ w7.cell? ⟨g, n * 5 + 4, none⟩ = some (.slice none 0 0) ∧
    w7.frozen? ⟨g, n * 5, none⟩ = false ∧ w7.frozen? ⟨g, n * 5 + 1, none⟩ = false ∧ w7.frozen? ⟨g, n * 5 + 2, none⟩ = false ∧ w7.frozen? ⟨g, n * 5 + 3, none⟩ = false ∧ w7.frozen? ⟨g, n * 5 + 4, none⟩ = false := by
  have hl := kidCells_length rows
  have hc : ∀ x, x < 5 → w7.cell? ⟨g, n * 5 + x, none⟩ = zero5.toList[x]? := fun x hx => by
    rw [h.cellAt (n * 5 + x) (by omega), List.getElem?_append_right (by omega)]
    congr 1
    omega
  exact ⟨(h.lt g rfl).1, hc 0 (by omega), hc 1 (by omega), hc 2 (by omega), hc 3 (by omega), hc 4 (by omega), h.frozenAt _, h.frozenAt _, h.frozenAt _, h.frozenAt _, h.frozenAt _⟩
theorem box7 {k0 i0 j0 n0 : Int} {m : Md} {bv : Value} {bnd : List (List UInt8)} {rows : List (TT × Value)} {v : Value} {wa w7 : World} {g : Nat} {B : Nat} (hG : GSt E lv en b w k0 i0 j0 n0 nv nm m bv bnd rows v wa) (hgrow7 : wa.grownBy w7 v.ownBlock) (_hat : v.ownBlock = some g ∨ g = B) (_hB : wa.heap.size = B) :
    w7.heap[w.heap.size + 1]? = some (.cells #[.int .i64 k0, .int .i64 i0, .int .i64 j0, .int .i64 n0, v] 24 (0, 0)) := by
  rw [hgrow7.block _ (Array.getElem?_eq_some_iff.1 hG.box).1 (fun he => by have := (hG.own.lt _ he.symm).1; omega)]
  exact hG.box

theorem set_end {a z : List Value} {x : Value} {i : Nat} (_hz : i < z.length) {n : Nat} (hn : n = a.length + i) : (a ++ z).set n x = a ++ z.set i x := by
  subst hn
  rw [List.set_append_right _ _ (by omega)]
  congr 2
  omega
def set5o (W : World) (g o : Nat) (a c d e f : Value) : World := ((((W.setCell ⟨g, o, none⟩ a).setCell ⟨g, o + 1, none⟩ c).setCell ⟨g, o + 2, none⟩ d).setCell ⟨g, o + 3, none⟩ e).setCell ⟨g, o + 4, none⟩ f
theorem set5o_grown (W : World) (g o : Nat) (a c d e f : Value) : W.grownBy (set5o W g o a c d e f) (some g) :=
  grown_set (grown_set (grown_set (grown_set (grown_set (grown_refl _ _) _ _) _ _) _ _) _ _) _ _
theorem set5o_other (W : World) (g o : Nat) (a c d e f : Value) {x : Nat} (hx : x ≠ g) : (set5o W g o a c d e f).heap[x]? = W.heap[x]? := by
  unfold set5o
  rw [Below.heap_setCell _ _ _ _ hx, Below.heap_setCell _ _ _ _ hx, Below.heap_setCell _ _ _ _ hx, Below.heap_setCell _ _ _ _ hx, Below.heap_setCell _ _ _ _ hx]
theorem set5o_size (W : World) (g o : Nat) (a c d e f : Value) : (set5o W g o a c d e f).heap.size = W.heap.size := by simp [set5o, World.setCell]
theorem set5o_row {w7 : World} {base g cap : Nat} {e : TypeId} {rows : List (TT × Value)} (h : w7.ownsRow base e 5 (.slice (some ⟨g, 0, none⟩) (rows.length + 1) cap) (rows.length + 1) (kidCells rows ++ zero5.toList)) (t : TT) (v1 : Value) :
    (set5o w7 g (rows.length * 5) (.int .i64 t.kd) (.int .i64 t.ni) (.int .i64 t.nj) (.int .i64 t.nn) v1).ownsRow base e 5 (.slice (some ⟨g, 0, none⟩) (rows.length + 1) cap) (rows.length + 1) (kidCells (rows ++ [(t, v1)])) := by
  have hl := kidCells_length rows
  have h1 := (((((h.stored (rows.length * 5) (.int .i64 t.kd)).1.stored (rows.length * 5 + 1) (.int .i64 t.ni)).1.stored (rows.length * 5 + 2) (.int .i64 t.nj)).1.stored (rows.length * 5 + 3) (.int .i64 t.nn)).1.stored (rows.length * 5 + 4) v1).1
  rw [set_end (i := 0) (by simp [zero5]) (by omega), set_end (i := 1) (by simp [zero5]) (by omega), set_end (i := 2) (by simp [zero5]) (by omega), set_end (i := 3) (by simp [zero5]) (by omega), set_end (i := 4) (by simp [zero5]) (by omega)] at h1
  rw [kidCells_append]
  exact h1

attribute [irreducible] set5o
theorem size_set (W : World) (a : Addr) (v : Value) : (W.setCell a v).heap.size = W.heap.size := by simp [World.setCell]

/-- the world behind the append: whatever order the stores come in, a kid more -/
def PushTo (E : REnv) (lv : Value) (en : Int) (b : Nat) (w : World) (k0 i0 j0 n0 : Int) (nv : Value) (nm : List (List UInt8)) (m : Md) (bv : Value) (bnd : List (List UInt8)) (rows : List (TT × Value)) (t : TT) (v1 : Value) (g cap : Nat) (w7 : World) : Prop :=
  GSt E lv en b w k0 i0 j0 n0 nv nm m bv bnd (rows ++ [(t, v1)]) (.slice (some ⟨g, 0, none⟩) (rows.length + 1) cap) ((set5o w7 g (rows.length * 5) (.int .i64 t.kd) (.int .i64 t.ni) (.int .i64 t.nj) (.int .i64 t.nn) v1).setCell ⟨w.heap.size + 1, 4, none⟩ (.slice (some ⟨g, 0, none⟩) (rows.length + 1) cap)) ∧
  GSt E lv en b w k0 i0 j0 n0 nv nm m bv bnd (rows ++ [(t, v1)]) (.slice (some ⟨g, 0, none⟩) (rows.length + 1) cap) (set5o (w7.setCell ⟨w.heap.size + 1, 4, none⟩ (.slice (some ⟨g, 0, none⟩) (rows.length + 1) cap)) g (rows.length * 5) (.int .i64 t.kd) (.int .i64 t.ni) (.int .i64 t.nj) (.int .i64 t.nn) v1)

theorem push_to {k0 i0 j0 n0 : Int} {m m2 : Md} {bv : Value} {bnd : List (List UInt8)} {rows : List (TT × Value)} {v : Value} {wr wa w7 : World} {t : TT} {v1 : Value} {g cap H : Nat}
    (hG : GSt E lv en b w k0 i0 j0 n0 nv nm m bv bnd rows v wa) (hGr : GSt E lv en b w k0 i0 j0 n0 nv nm m2 bv bnd rows v wr)
    (hrep : m.isBad = false → RepTS wa (fun x => wr.heap.size ≤ x) t.kids v1 ∧ t.in4)
    (hown7 : w7.ownsRow (w.heap.size + 2) 24 5 (.slice (some ⟨g, 0, none⟩) (rows.length + 1) cap) (rows.length + 1) (kidCells rows ++ zero5.toList)) (hgrow7 : wa.grownBy w7 v.ownBlock) (hat : v.ownBlock = some g ∨ g = H) (hH : wa.heap.size = H)
    (hbx7 : w7.heap[w.heap.size + 1]? = some (.cells #[.int .i64 k0, .int .i64 i0, .int .i64 j0, .int .i64 n0, v] 24 (0, 0))) :
    PushTo E lv en b w k0 i0 j0 n0 nv nm m bv bnd rows t v1 g cap w7 := by
  subst hH
  have hg := (hown7.lt g rfl).1
  have hgD : g ≠ w.heap.size + 1 := by omega
  have hDB : w.heap.size + 2 ≤ wr.heap.size := (Array.getElem?_eq_some_iff.1 hGr.box).1
  have h1 := set5o_row hown7 t v1
  have gD : ∀ W : World, W.grownBy (W.setCell ⟨w.heap.size + 1, 4, none⟩ (.slice (some ⟨g, 0, none⟩) (rows.length + 1) cap)) (some (w.heap.size + 1)) := fun W => grown_set (grown_refl _ _) 4 _
  have hown' := hown7.kept (gD w7) (.inr (by simp [Value.ownBlock]; omega))
  have h2 := set5o_row hown' t v1
  have oth := fun (W : World) (x : Nat) (hx : x ≠ g) => set5o_other W g (rows.length * 5) (.int .i64 t.kd) (.int .i64 t.ni) (.int .i64 t.nj) (.int .i64 t.nn) v1 hx
  have siz := fun (W : World) => set5o_size W g (rows.length * 5) (.int .i64 t.kd) (.int .i64 t.ni) (.int .i64 t.nj) (.int .i64 t.nn) v1
  have go5 := fun W : World => set5o_grown W g (rows.length * 5) (.int .i64 t.kd) (.int .i64 t.ni) (.int .i64 t.nj) (.int .i64 t.nn) v1
  constructor
  · refine hG.push (fun x hx => (hGr.own.lt x hx).2) (fun x hx => (hGr.ownb.lt x hx).2) hDB hrep hg hgrow7 hat ?_ ⟨(gD _).os.trans (go5 _).os, (gD _).tape.trans (go5 _).tape, (gD _).output.trans (go5 _).output⟩ ?_ ?_ ?_
    · exact (size_set _ _ _).trans (siz w7)
    · intro x hx1 hx2
      exact (Below.heap_setCell _ _ _ _ hx2).trans (oth w7 x hx1)
    · exact set1_at ((oth w7 _ (Ne.symm hgD)).trans hbx7) 4 _
    · exact h1.kept (gD _) (.inr (by simp [Value.ownBlock]; omega))
  · refine hG.push (fun x hx => (hGr.own.lt x hx).2) (fun x hx => (hGr.ownb.lt x hx).2) hDB hrep hg hgrow7 hat ?_ ⟨(go5 _).os.trans (gD _).os, (go5 _).tape.trans (gD _).tape, (go5 _).output.trans (gD _).output⟩ ?_ ?_ h2
    · exact (siz _).trans (size_set _ _ _)
    · intro x hx1 hx2
      exact (oth _ x hx1).trans (Below.heap_setCell _ _ _ _ hx2)
    · exact (oth _ _ (Ne.symm hgD)).trans (set1_at hbx7 4 _)

def GivRel (r : RR (List TT)) (F : List (List UInt8) → Nat → Nat → RR TT) (outer : List (List UInt8)) (c k : Nat) (rows : List (TT × Value)) (len : Nat) : Md → Prop
  | .ok k1 => r = giveM F outer c (rows.map Prod.fst) k1 ∧ k ≤ k1 ∧ k1 ≤ len
  | .bad q => r = .bad q

theorem rep_of {r : RR TT} {t : TT} {v : Value} {w6 : World} {B : Nat} (hm : r.md.isBad = false) (hv : ∀ t' k', r = .ok t' k' → t' = t ∧ RepTS w6 (fun x => B ≤ x) t.kids v ∧ t.in4) : RepTS w6 (fun x => B ≤ x) t.kids v ∧ t.in4 := by
  cases r with
  | ok t' k' => exact (hv t' k' rfl).2
  | bad q => simp [RR.md, Md.isBad] at hm
theorem rep_alloc {t : TT} {v : Value} {w6 : World} {B : Nat} (h : RepTS w6 (fun x => B ≤ x) t.kids v ∧ t.in4) (o : Obj) : RepTS (w6.alloc o) (fun x => B ≤ x) t.kids v ∧ t.in4 :=
  ⟨h.1.kept (by simp) fun x hx hxl => ⟨Lib.alloc_old _ _ _ hxl, hx⟩, h.2⟩
theorem rep_less {t : TT} {v : Value} {w6 : World} {B B' : Nat} (h : RepTS w6 (fun x => B ≤ x) t.kids v ∧ t.in4) (hB : B' ≤ B) : RepTS w6 (fun x => B' ≤ x) t.kids v ∧ t.in4 :=
  ⟨h.1.kept (Nat.le_refl _) fun _x hx _ => ⟨rfl, Nat.le_trans hB hx⟩, h.2⟩
theorem giv_step {r : RR (List TT)} {F : List (List UInt8) → Nat → Nat → RR TT} {c k j : Nat} {rows : List (TT × Value)} {m : Md} {t : TT} {v1 : Value} (h : GivRel r F nm (c - j) k rows E.l.length m) (hmv : ∀ k, k ≤ E.l.length → Moves E.l 1 k (F nm 2 k)) (hj : j < c)
    (hv : ∀ t' k', m.go (F nm 2) = .ok t' k' → t' = t) : GivRel r F nm (c - (j + 1)) k (rows ++ [(t, v1)]) E.l.length (m.go (F nm 2)).md := by
  cases m with
  | bad q => exact h
  | ok k1 =>
    obtain ⟨h1, h2, h3⟩ := h
    have hm := hmv k1 h3
    rw [show c - j = (c - (j + 1)) + 1 by omega] at h1
    simp only [giveM] at h1
    simp only [Md.go] at hv ⊢
    cases hq : F nm 2 k1 with
    | bad q => rw [hq] at h1; exact h1
    | ok t' k' =>
      rw [hq] at h1 hm
      simp only [Moves] at hm
      obtain rfl := hv t' k' hq
      simp only [RR.md, GivRel]
      refine ⟨?_, by omega, hm.2⟩
      rw [h1]
      simp [RR.bind]

def GivPost (E : REnv) (lv : Value) (en : Int) (b : Nat) (w : World) (i0 j0 n0 : Int) (nv : Value) (nm : List (List UInt8)) (bv : Value) (bnd : List (List UInt8)) (len : Nat) (r : RR (List TT)) (w' : World) : Prop :=
  ∃ rows v, GSt E lv en b w 23 i0 j0 n0 nv nm r.md bv bnd rows v w' ∧ rows.length = len ∧ ∀ ks k', r = .ok ks k' → rows.map Prod.fst = ks

set_option maxHeartbeats 4000000 in
set_option maxRecDepth 100000 in
theorem given_any {fuel : Nat} (ih : TermC E lv en b fuel) {i0 j0 : Int} {n0 c k : Nat} {cI : Int} (hc : kidsK 23 n0 = cI) (hcc : c = cI.toNat) (hc12 : c ≤ 12) {m0 : Md} {rows0 : List (TT × Value)} (hr0 : rows0.length ≤ 120) {v0 bv : Value} {bnd : List (List UInt8)} {wr0 : World}
    (hG : GSt E lv en b w 23 i0 j0 n0 nv nm m0 bv bnd rows0 v0 wr0) (hm0 : ∀ k1, m0 = .ok k1 → k ≤ k1) (hf : E.l.length < k + fuel) (hnl : nm.length + E.l.length ≤ 2199023255552 + k) :
    Calls Tryd.prog 59 #[.pointer (some ⟨b, 0, none⟩), .pointer (some ⟨w.heap.size + 1, 0, none⟩)] wr0 fun e w' => e = .returned (.tuple #[]) ∧
      GivPost E lv en b w i0 j0 n0 nv nm bv bnd (rows0.length + c) (m0.go (giveM (termM E fuel) nm c (rows0.map Prod.fst))) w' := by
  have HC := Lib.hid hc
  have IH := Lib.hid ih
  obtain ⟨i1, hi, hi0, hi1, hi2⟩ := info_parts Tryd.infoTerm
  have HINF := Lib.hid (And.intro hi (And.intro hi0 (And.intro hi1 hi2)))
  have HMV : Hid (∀ k, k ≤ E.l.length → Moves E.l 1 k (termM E fuel nm 2 k)) := Lib.hid (fun k hk => termM_moves E fuel nm 2 k hk)
  have HG := Lib.hid hG
  obtain ⟨d0, d1, d2, d3, d4, _⟩ := cells5 hG.box
  clear hG hc ih hi hi0 hi1 hi2
  have hmk : ∀ k1, m0 = .ok k1 → k1 ≤ E.l.length := fun k1 he => by subst he; exact HG.out.tn.1.le
  have HST : Hid (GivRel (m0.go (giveM (termM E fuel) nm c (rows0.map Prod.fst))) (termM E fuel) nm (c - 0) k rows0 E.l.length m0) := Lib.hid (by
    cases m0 with
    | ok k1 => exact ⟨rfl, hm0 k1 rfl, hmk k1 rfl⟩
    | bad q => exact rfl)
  clear hm0 hmk
  generalize m0.go (giveM (termM E fuel) nm c (rows0.map Prod.fst)) = r at HST
  go_enter Tryd.func59, Tryd.ntmps59
  go_wp2_with fail
  refine (kidsK_any 23 n0 _).mono ?_
  rintro e w1 ⟨rfl, rfl⟩
  rw [HC.out]
  go_wp2_with fail
  go_loopw [9] (fun ix wr => ∃ (j : Nat) (m : Md) (rows : List (TT × Value)) (v : Value), ix = .int .i64 j ∧ j ≤ c ∧ rows.length = rows0.length + j ∧ GSt E lv en b w 23 i0 j0 n0 nv nm m bv bnd rows v wr ∧ GivRel r (termM E fuel) nm (c - j) k rows E.l.length m) (fun i _ => c - (intOf i).toNat)
  case atStart => exact ⟨0, m0, rows0, v0, rfl, Nat.zero_le _, rfl, HG.out, HST.out⟩
  case round =>
    obtain ⟨j, m, rows, v, rfl, hj, hlen, hGr, hrl⟩ := hrel
    by_cases hlt : j < c
    · have hltI : (j : Int) < cI := by omega
      have HGr := Lib.hid hGr
      have HRL := Lib.hid hrl
      have hok : ∀ k1, m = .ok k1 → k ≤ k1 ∧ k1 ≤ E.l.length := fun k1 he => by
        subst he
        simp only [GivRel] at hrl
        exact hrl.2
      have HCALL : Hid (∀ W, GSt E lv en b w 23 i0 j0 n0 nv nm m bv bnd rows v W → Calls Tryd.prog 31 #[.pointer (some ⟨b, 0, none⟩), .int .i64 2] W (TermPost E lv en b W nv nm (m.go (termM E fuel nm 2)))) := Lib.hid (fun W hW => term_m IH.out 2 hW.tn.1 (fun k1 he => by
        have := hok k1 he
        omega) (by omega))
      have HOK := Lib.hid hok
      have HLEN := Lib.hid hlen
      have hr12 : rows.length ≤ 140 := by omega
      have hix : ((rows.length : Nat) : Int) < ((rows.length : Nat) : Int) + 1 := by omega
      clear hlen
      obtain ⟨av, cv, rfl⟩ := own_form hGr.own
      obtain ⟨e0, e1, e2, e3, e4, q0, q1, q2, q3, q4⟩ := cells5 hGr.box
      obtain ⟨hi, hi0, hi1, hi2⟩ := HINF.out
      have hltw := (Array.getElem?_eq_some_iff.1 hGr.box).1
      clear hGr hrl hok d0 d1 d2 d3 d4
      go_wp2_with fail
      go_region_law
        (first
          | (go_simp
             go_at_call 31
             first
               | (refine (HCALL.out _ (HGr.out.drewN 1)).mono ?_
                  rintro e w6 ⟨t, a6, l6, c6, rfl, ht6, hv6⟩
                  have HG6 := Lib.hid (GSt.move (HGr.out.drewN 1) ht6 (md_good _ _))
                  have hbx6 := HG6.out.box
                  obtain ⟨k0c, k1c, k2c, k3c, k4c, _⟩ := cells5 hbx6
                  have hown6 := HG6.out.own
                  have hsz6 := (Array.getElem?_eq_some_iff.1 hbx6).1
                  unfold termV)
               | (refine (HCALL.out _ ((HGr.out.alloc (.cells zero5 24)).drewN 1)).mono ?_
                  rintro e w6 ⟨t, a6, l6, c6, rfl, ht6, hv6⟩
                  have HG6 := Lib.hid (GSt.move ((HGr.out.alloc (.cells zero5 24)).drewN 1) ht6 (md_good _ _))
                  have hz6 : w6.heap[wr.heap.size]? = some (.cells zero5 24 (0, 0)) := by
                    rw [ht6.2.block wr.heap.size (by simp) (by have := HGr.out.old; simp; omega)]
                    exact new_heap _ _ _
                  have hbx6 := HG6.out.box
                  obtain ⟨k0c, k1c, k2c, k3c, k4c, _⟩ := cells5 hbx6
                  have hown6 := HG6.out.own
                  have hsz6 := (Array.getElem?_eq_some_iff.1 hbx6).1
                  unfold termV))
          | (refine step_append_lies _ (by rfl) _ _ _ (by rfl) (w.heap.size + 2) 24 i1 _ 5 56 Tryd.underlying22 hi hi0 hi1 hi2 rfl (by omega) (.slice av rows.length cv) rows.length (kidCells rows) (by rfl) (hown6.alloc _)
               ⟨w6.heap.size, 0, none⟩ 1 1 zero5.toList (by rfl) (by simp [zero5]) (World.news_of_block (cs := zero5) (t := 24) (fr := (0, 0)) (heap_alloc_new w6 _)) (by simp [zero5, Value.oneCell'])
               (by omega) (by unfold maxLen; omega) (by omega) (by simp; omega) (w6.heap.size + 1) (by simp) ?_
             intro g cap w7 hown7 hgrow7 hat7 hlt7
             obtain ⟨hg7, u0, u1, u2, u3, u4, z0, z1, z2, z3, z4⟩ := new_row5 hown7
             have hbx7 := (box7 (hG := HG6.out.alloc (.cells zero5 24)) hgrow7 hat7 (by simp))
             obtain ⟨k0d, k1d, k2d, k3d, k4d, q0d, q1d, q2d, q3d, q4d⟩ := cells5 hbx7
             have HP : Hid (PushTo E lv en b w 23 i0 j0 n0 nv nm (m.go (termM E fuel nm 2)).md bv bnd rows t (.slice a6 l6 c6) g cap w7) := Lib.hid (push_to (HG6.out.alloc (.cells zero5 24)) HGr.out (fun hm => rep_alloc (rep_of hm hv6) _) hown7 hgrow7 hat7 (by simp) hbx7))
          | (refine step_append_lies _ (by rfl) _ _ _ (by rfl) (w.heap.size + 2) 24 i1 _ 5 56 Tryd.underlying22 hi hi0 hi1 hi2 rfl (by omega) (.slice av rows.length cv) rows.length (kidCells rows) (by rfl) hown6
               ⟨wr.heap.size, 0, none⟩ 1 1 zero5.toList (by rfl) (by simp [zero5]) (World.news_of_block (cs := zero5) (t := 24) (fr := (0, 0)) hz6) (by simp [zero5, Value.oneCell'])
               (by omega) (by unfold maxLen; omega) (by omega) (by omega) (w6.heap.size) (by rfl) ?_
             intro g cap w7 hown7 hgrow7 hat7 hlt7
             obtain ⟨hg7, u0, u1, u2, u3, u4, z0, z1, z2, z3, z4⟩ := new_row5 hown7
             have hbx7 := (box7 (hG := HG6.out) hgrow7 hat7 (by rfl))
             obtain ⟨k0d, k1d, k2d, k3d, k4d, q0d, q1d, q2d, q3d, q4d⟩ := cells5 hbx7
             have HP : Hid (PushTo E lv en b w 23 i0 j0 n0 nv nm (m.go (termM E fuel nm 2)).md bv bnd rows t (.slice a6 l6 c6) g cap w7) := Lib.hid (push_to HG6.out HGr.out (fun hm => rep_less (rep_of hm hv6) (by simp)) hown7 hgrow7 hat7 (by rfl) hbx7))
          | (trace_state; fail))
      all_goals
        have HREL := Lib.hid (giv_step (v1 := .slice a6 l6 c6) HRL.out HMV.out (by omega) (fun t' k' h => (hv6 t' k' h).1))
        clear hown7 hgrow7 hat7 hbx7 hbx6 hown6 hv6 ht6 hi hi0 hi1 hi2
        go_wp2
        go_roundw
        case rel =>
          obtain ⟨h1, h2⟩ := HP.out
          unfold set5o at h1 h2
          refine ⟨j + 1, (m.go (termM E fuel nm 2)).md, rows ++ [(t, .slice a6 l6 c6)], .slice (some ⟨g, 0, none⟩) (rows.length + 1) cap, by go_num, by omega, by simp [HLEN.out]; omega, ?_, HREL.out⟩
          first
            | with_reducible exact h1
            | with_reducible exact h2
        case measure => simp [intOf]; omega
    · have hjc : j = c := by omega
      have hltI : ¬ (j : Int) < cI := by omega
      subst hjc
      have HE : Hid (GivPost E lv en b w i0 j0 n0 nv nm bv bnd (rows0.length + j) r wr) := Lib.hid (by
        refine ⟨rows, v, ?_, hlen, ?_⟩
        · cases m with
          | ok k1 => simp only [GivRel, Nat.sub_self, giveM] at hrl; rw [hrl.1]; exact hGr
          | bad q => simp only [GivRel] at hrl; rw [hrl]; exact hGr
        · intro ks k' he
          cases m with
          | ok k1 => simp only [GivRel, Nat.sub_self, giveM] at hrl; rw [hrl.1] at he; cases he; rfl
          | bad q => simp only [GivRel] at hrl; rw [hrl] at he; cases he)
      clear hGr hrl
      go_wp2
      exact post_end0 rfl rfl ⟨rfl, by first | exact HE.out | (rw [← hcc]; exact HE.out)⟩
end
end Go.Proofs.YtfklmcmoackepaaDoor

namespace Go.Proofs.YtfklmcmoackepaaDoor
open Go.RowKit

/-- what has been read behind a list's word -/
structure LS where
  n : Nat
  i : Nat
  j : Nat
  kids : List TT
  bnd : List (List UInt8)
def ofL (kd : Nat) : Nat := if kd ≤ 12 then 1 else 2
/-- one letter -/
def itemM (E : REnv) (F : List (List UInt8) → Nat → Nat → RR TT) (outer : List (List UInt8)) (kd : Nat) (c : UInt8) (s : LS) (k : Nat) : RR LS :=
  if c = 76 then (levM E k).bind fun a k' => .ok { s with i := a } k'
  else if c = 77 then (levM E k).bind fun a k' => if kd = 23 then (giveM F outer (kidsK 23 s.n).toNat s.kids k').bind fun ks k'' => .ok { s with j := a, kids := ks } k'' else .ok { s with j := a } k'
  else if c = 83 then (symM E k).bind fun a k' => .ok { s with n := a } k'
  else if c = 120 ∨ c = 121 ∨ c = 101 then (wordM E k).bind fun x k' => .ok { s with bnd := s.bnd ++ [x] } k'
  else if c = 116 then (F outer (ofL kd) k).bind fun t k' => .ok { s with kids := s.kids ++ [t] } k'
  else if c = 112 then (F outer 2 k).bind fun t k' => .ok { s with kids := s.kids ++ [t] } k'
  else (F (outer ++ s.bnd) (ofL kd) k).bind fun t k' => .ok { s with kids := s.kids ++ [t] } k'
def itemsM (E : REnv) (F : List (List UInt8) → Nat → Nat → RR TT) (outer : List (List UInt8)) (kd : Nat) : List UInt8 → LS → Nat → RR LS
  | [], s, k => .ok s k
  | c :: cs, s, k => (itemM E F outer kd c s k).bind fun s' k' => itemsM E F outer kd cs s' k'

/-- the rest of the letters leads to total -/
def LsRel (E : REnv) (F : List (List UInt8) → Nat → Nat → RR TT) (nm : List (List UInt8)) (kd k0 : Nat) (total : RR LS) (cs : List UInt8) (s : LS) (rows : List (TT × Value)) : Md → Prop
  | .ok k => itemsM E F nm kd cs s k = total ∧ k0 ≤ k ∧ s.bnd.length + k0 ≤ k ∧ rows.map Prod.fst = s.kids
  | .bad q => total = .bad q

/-- what holds ahead of a round -/
def LRel (E : REnv) (lv : Value) (en : Int) (b : Nat) (w : World) (kd k0 : Nat) (shape : List UInt8) (nv : Value) (nm : List (List UInt8)) (F : List (List UInt8) → Nat → Nat → RR TT) (total : RR LS) (bv : Value) (p : Nat) (wr : World) : Prop :=
  ∃ (m : Md) (s : LS) (rows : List (TT × Value)) (v : Value), GSt E lv en b w kd s.i s.j s.n nv nm m bv s.bnd rows v wr ∧ rows.length ≤ 13 * p ∧ s.bnd.length ≤ p ∧ p ≤ shape.length ∧ (s.i ≤ 1100000000000 ∧ s.j ≤ 1100000000000 ∧ s.n ≤ 21) ∧ LsRel E F nm kd k0 total (shape.drop p) s rows m

theorem ls_step {E : REnv} {F : List (List UInt8) → Nat → Nat → RR TT} {nm : List (List UInt8)} {kd k0 : Nat} {total : RR LS} {shape : List UInt8} {p : Nat} {c : UInt8} (hc : shape[p]? = some c) {s : LS} {rows : List (TT × Value)} {k : Nat} (h : LsRel E F nm kd k0 total (shape.drop p) s rows (.ok k)) :
    (itemM E F nm kd c s k).bind (fun s' k' => itemsM E F nm kd (shape.drop (p + 1)) s' k') = total ∧ k0 ≤ k ∧ s.bnd.length + k0 ≤ k ∧ rows.map Prod.fst = s.kids := by
  obtain ⟨hlt, he⟩ := List.getElem?_eq_some_iff.1 hc
  obtain ⟨h1, h2⟩ := h
  rw [List.drop_eq_getElem_cons hlt, he] at h1
  exact ⟨h1, h2⟩

def firstLoop : Code → Option Code
  | .loop c => some c
  | .seq a b => match firstLoop a with
    | some c => some c
    | none => firstLoop b
  | .block _ c => firstLoop c
  | .scope c => firstLoop c
  | .cond _ a b => match firstLoop a with
    | some c => some c
    | none => firstLoop b
  | _ => none
noncomputable def lbody : Code := (Tryd.f49.body.bind firstLoop).getD .skip

set_option maxRecDepth 1000000 in
def WI (E : REnv) (lv : Value) (en : Int) (b : Nat) (w : World) (kd ofl k0 : Nat) (shape : List UInt8) (nv : Value) (nm : List (List UInt8)) (F : List (List UInt8) → Nat → Nat → RR TT) (total : RR LS) (c3 c4 c5 c12 c13 c14 c15 c16 c17 c18 c19 c119 c120 c121 : Value) (a : Act) (w' : World) : Prop :=
  ∃ (bv : Value) (p : Nat) (u20 u21 u22 u23 u24 u25 u26 u27 u28 u29 u30 u31 u32 u33 u34 u35 u36 u37 u38 u39 u40 u41 u42 u43 u44 u45 u46 u47 u48 u49 u50 u51 u52 u53 u54 u55 u56 u57 u58 u59 u60 u61 u62 u63 u64 u65 u66 u67 u68 u69 u70 u71 u72 u73 u74 u75 u76 u77 u78 u79 u80 u81 u82 u83 u84 u85 u86 u87 u88 u89 u90 u91 u92 u93 u94 u95 u96 u97 u98 u99 u100 u101 u102 u103 u104 u105 u106 u107 u108 u109 u110 u111 u112 u113 u114 u115 u116 u117 u118 : Value), LRel E lv en b w kd k0 shape nv nm F total bv p w' ∧ a = ⟨#[.pointer (some ⟨b, 0, none⟩), .int .i64 (kd : Nat), .string ⟨shape.toArray⟩, c3, c4, c5, .pointer (some ⟨w.heap.size, 0, none⟩), .pointer (some ⟨w.heap.size + 1, 0, none⟩), .int .i64 (ofl : Nat), nv, bv, .int .i64 (p : Nat), c12, c13, c14, c15, c16, c17, c18, c19, u20, u21, u22, u23, u24, u25, u26, u27, u28, u29, u30, u31, u32, u33, u34, u35, u36, u37, u38, u39, u40, u41, u42, u43, u44, u45, u46, u47, u48, u49, u50, u51, u52, u53, u54, u55, u56, u57, u58, u59, u60, u61, u62, u63, u64, u65, u66, u67, u68, u69, u70, u71, u72, u73, u74, u75, u76, u77, u78, u79, u80, u81, u82, u83, u84, u85, u86, u87, u88, u89, u90, u91, u92, u93, u94, u95, u96, u97, u98, u99, u100, u101, u102, u103, u104, u105, u106, u107, u108, u109, u110, u111, u112, u113, u114, u115, u116, u117, u118, c119, c120, c121], []⟩
def Wmu (shape : List UInt8) (a : Act) (_ : World) : Nat := shape.length - (intOf (a.tmps.getD 11 undef)).toNat

set_option maxRecDepth 1000000 in
/-- behind the loop -/
def WX (E : REnv) (lv : Value) (en : Int) (b : Nat) (w : World) (kd ofl _k0 : Nat) (shape : List UInt8) (nv : Value) (nm : List (List UInt8)) (_F : List (List UInt8) → Nat → Nat → RR TT) (total : RR LS) (c3 c4 c5 c12 c13 c14 c15 c16 c17 c18 c19 c119 c120 c121 : Value) (a : Act) (w' : World) : Prop :=
  ∃ (bv : Value) (p : Nat) (u20 u21 u22 u23 u24 u25 u26 u27 u28 u29 u30 u31 u32 u33 u34 u35 u36 u37 u38 u39 u40 u41 u42 u43 u44 u45 u46 u47 u48 u49 u50 u51 u52 u53 u54 u55 u56 u57 u58 u59 u60 u61 u62 u63 u64 u65 u66 u67 u68 u69 u70 u71 u72 u73 u74 u75 u76 u77 u78 u79 u80 u81 u82 u83 u84 u85 u86 u87 u88 u89 u90 u91 u92 u93 u94 u95 u96 u97 u98 u99 u100 u101 u102 u103 u104 u105 u106 u107 u108 u109 u110 u111 u112 u113 u114 u115 u116 u117 u118 : Value), (∃ (m : Md) (s : LS) (rows : List (TT × Value)) (v : Value), GSt E lv en b w kd s.i s.j s.n nv nm m bv s.bnd rows v w' ∧ (s.i ≤ 1100000000000 ∧ s.j ≤ 1100000000000 ∧ s.n ≤ 21) ∧ (total.md = m ∧ ∀ s' k', total = .ok s' k' → s' = s ∧ rows.map Prod.fst = s.kids)) ∧ a = ⟨#[.pointer (some ⟨b, 0, none⟩), .int .i64 (kd : Nat), .string ⟨shape.toArray⟩, c3, c4, c5, .pointer (some ⟨w.heap.size, 0, none⟩), .pointer (some ⟨w.heap.size + 1, 0, none⟩), .int .i64 (ofl : Nat), nv, bv, .int .i64 (p : Nat), c12, c13, c14, c15, c16, c17, c18, c19, u20, u21, u22, u23, u24, u25, u26, u27, u28, u29, u30, u31, u32, u33, u34, u35, u36, u37, u38, u39, u40, u41, u42, u43, u44, u45, u46, u47, u48, u49, u50, u51, u52, u53, u54, u55, u56, u57, u58, u59, u60, u61, u62, u63, u64, u65, u66, u67, u68, u69, u70, u71, u72, u73, u74, u75, u76, u77, u78, u79, u80, u81, u82, u83, u84, u85, u86, u87, u88, u89, u90, u91, u92, u93, u94, u95, u96, u97, u98, u99, u100, u101, u102, u103, u104, u105, u106, u107, u108, u109, u110, u111, u112, u113, u114, u115, u116, u117, u118, c119, c120, c121], []⟩
end Go.Proofs.YtfklmcmoackepaaDoor

namespace Go.Proofs.YtfklmcmoackepaaDoor
open Go.RowKit

/-- an array that differs from another in n places from lo on -/
def updN (arr : Array Value) : Nat → Nat → Array Value → Array Value
  | _, 0, base => base
  | lo, n + 1, base => updN arr (lo + 1) n (base.setIfInBounds lo (arr.getD lo undef))
theorem arr_upd (arr : Array Value) : ∀ (n lo : Nat) (base : Array Value), arr.size = base.size → (∀ j, (j < lo ∨ lo + n ≤ j) → arr[j]? = base[j]?) → arr = updN arr lo n base
  | 0, lo, base, _, h => by
    unfold updN
    exact Array.ext_getElem? fun j => h j (by omega)
  | n + 1, lo, base, hs, h => by
    unfold updN
    refine arr_upd arr n (lo + 1) _ (by simpa using hs) fun j hj => ?_
    by_cases hjl : j = lo
    · subst hjl
      by_cases hlt : j < base.size
      · have hlt' : j < arr.size := by omega
        simp [hlt, hlt']
      · have hlt' : ¬ j < arr.size := by omega
        simp [hlt, hlt']
    · rw [Array.getElem?_setIfInBounds_ne (by omega)]
      exact h j (by omega)

def findRegion (n : Nat) : Code → Option Code
  | .loop c => findRegion n c
  | .seq a b => match findRegion n a with
    | some c => some c
    | none => findRegion n b
  | .block _ c => findRegion n c
  | .scope c => findRegion n c
  | .cond _ a b => match findRegion n a with
    | some c => some c
    | none => findRegion n b
  | .region id ops b => if id == n then some (.region id ops b) else none
  | _ => none
/-- normal, and nothing else -/
def OnlyN (R : Act → World → Prop) : Exit → Act → World → Prop
  | .normal, a, w => R a w
  | _, _, _ => False
theorem wp_onlyN {P : Program} {c : Code} {Q : Exit → Act → World → Prop} {a : Act} {w : World} (h : c.wp P (OnlyN (Q .normal)) a w) : c.wp P Q a w :=
  Code.wp_mono (fun e a w h => by cases e <;> first | exact h | exact (h : False).elim) h

noncomputable def reg27 : Code := (Tryd.f49.body.bind (findRegion 27)).getD .skip

set_option maxHeartbeats 4000000 in
set_option maxRecDepth 1000000 in
theorem reg27_wp {E : REnv} {lv : Value} {en : Int} {b : Nat} {w : World} {kd i0 j0 n0 : Int} {nv : Value} {nm : List (List UInt8)} {k : Nat} {bv : Value} {bnd : List (List UInt8)} {rows : List (TT × Value)} {v : Value} {wn : World} {r : RR TT} {want : Nat} (Q : Exit → Act → World → Prop) (a : Act)
    (hsz : a.tmps.size = 122) (h0 : a.tmps[0]? = some (.pointer (some ⟨b, 0, none⟩))) (h7 : a.tmps[7]? = some (.pointer (some ⟨w.heap.size + 1, 0, none⟩))) (h8 : a.tmps[8]? = some (.int .i64 (want : Nat)))
    (hG : GSt E lv en b w kd i0 j0 n0 nv nm (.ok k) bv bnd rows v wn) (hr12 : rows.length ≤ 140)
    (hcall : ∀ W, GSt E lv en b w kd i0 j0 n0 nv nm (.ok k) bv bnd rows v W → Calls Tryd.prog 31 #[.pointer (some ⟨b, 0, none⟩), .int .i64 (want : Nat)] W (TermPost E lv en b W nv nm r))
    (hQ : ∀ (t : TT) (v1 v' : Value) (W8 : World), GSt E lv en b w kd i0 j0 n0 nv nm r.md bv bnd (rows ++ [(t, v1)]) v' W8 → (∀ t' k', r = .ok t' k' → t' = t) → ∀ arr : Array Value, arr.size = 122 → (∀ j, (j < 98 ∨ 98 + 10 ≤ j) → arr[j]? = a.tmps[j]?) → Q .normal ⟨arr, a.defers⟩ W8) :
    reg27.wp Tryd.prog Q a wn := by
  obtain ⟨i1, hi, hi0, hi1, hi2⟩ := info_parts Tryd.infoTerm
  obtain ⟨av, cv, rfl⟩ := own_form hG.own
  have hix : ((rows.length : Nat) : Int) < ((rows.length : Nat) : Int) + 1 := by omega
  have hltw := (Array.getElem?_eq_some_iff.1 hG.box).1
  have HCALL := Lib.hid hcall
  have HGr := Lib.hid hG
  have HQ := Lib.hid hQ
  obtain ⟨e0, e1, e2, e3, e4, q0, q1, q2, q3, q4⟩ := cells5 hG.box
  have s0 : a.tmps[0]'(by omega) = .pointer (some ⟨b, 0, none⟩) := (Array.getElem?_eq_some_iff.1 h0).2
  have s7 : a.tmps[7]'(by omega) = .pointer (some ⟨w.heap.size + 1, 0, none⟩) := (Array.getElem?_eq_some_iff.1 h7).2
  have s8 : a.tmps[8]'(by omega) = .int .i64 (want : Nat) := (Array.getElem?_eq_some_iff.1 h8).2
  clear hcall hG hQ h0 h7 h8
  refine wp_onlyN ?_
  conv => arg 2; whnf
  go_region_law
    (first
      | (go_simp
         go_at_call 31
         first
           | (refine (HCALL.out _ (HGr.out.drewN 1)).mono ?_
              rintro e w6 ⟨t, a6, l6, c6, rfl, ht6, hv6⟩
              have HG6 := Lib.hid (GSt.move (HGr.out.drewN 1) ht6 (fun _ => rfl))
              have hbx6 := HG6.out.box
              obtain ⟨k0c, k1c, k2c, k3c, k4c, _⟩ := cells5 hbx6
              have hown6 := HG6.out.own
              have hsz6 := (Array.getElem?_eq_some_iff.1 hbx6).1
              unfold termV)
           | (refine (HCALL.out _ ((HGr.out.alloc (.cells zero5 24)).drewN 1)).mono ?_
              rintro e w6 ⟨t, a6, l6, c6, rfl, ht6, hv6⟩
              have HG6 := Lib.hid (GSt.move ((HGr.out.alloc (.cells zero5 24)).drewN 1) ht6 (fun _ => rfl))
              have hz6 : w6.heap[wn.heap.size]? = some (.cells zero5 24 (0, 0)) := by
                rw [ht6.2.block wn.heap.size (by simp) (by have := HGr.out.old; have := HGr.out.tn.2.size; simp; omega)]
                exact new_heap _ _ _
              have hbx6 := HG6.out.box
              obtain ⟨k0c, k1c, k2c, k3c, k4c, _⟩ := cells5 hbx6
              have hown6 := HG6.out.own
              have hsz6 := (Array.getElem?_eq_some_iff.1 hbx6).1
              unfold termV))
      | (refine step_append_lies _ (by rfl) _ _ _ (by rfl) (w.heap.size + 2) 24 i1 _ 5 56 Tryd.underlying22 hi hi0 hi1 hi2 rfl (by omega) (.slice av rows.length cv) rows.length (kidCells rows) (by simp [hsz, go_sem]) (hown6.alloc _)
           ⟨w6.heap.size, 0, none⟩ 1 1 zero5.toList (by simp [hsz, go_sem]) (by simp [zero5]) (World.news_of_block (cs := zero5) (t := 24) (fr := (0, 0)) (heap_alloc_new w6 _)) (by simp [zero5, Value.oneCell'])
           (by omega) (by unfold maxLen; omega) (by omega) (by simp; omega) (w6.heap.size + 1) (by simp) ?_
         intro g cap w7 hown7 hgrow7 hat7 hlt7
         obtain ⟨hg7, u0, u1, u2, u3, u4, z0, z1, z2, z3, z4⟩ := new_row5 hown7
         have hbx7 := (box7 (hG := HG6.out.alloc (.cells zero5 24)) hgrow7 hat7 (by simp))
         obtain ⟨k0d, k1d, k2d, k3d, k4d, q0d, q1d, q2d, q3d, q4d⟩ := cells5 hbx7
         have HP : Hid (PushTo E lv en b w kd i0 j0 n0 nv nm r.md bv bnd rows t (.slice a6 l6 c6) g cap w7) := Lib.hid (push_to (HG6.out.alloc (.cells zero5 24)) HGr.out (fun hm => rep_alloc (rep_of hm hv6) _) hown7 hgrow7 hat7 (by simp) hbx7))
      | (refine step_append_lies _ (by rfl) _ _ _ (by rfl) (w.heap.size + 2) 24 i1 _ 5 56 Tryd.underlying22 hi hi0 hi1 hi2 rfl (by omega) (.slice av rows.length cv) rows.length (kidCells rows) (by simp [hsz, go_sem]) hown6
           ⟨wn.heap.size, 0, none⟩ 1 1 zero5.toList (by simp [hsz, go_sem]) (by simp [zero5]) (World.news_of_block (cs := zero5) (t := 24) (fr := (0, 0)) hz6) (by simp [zero5, Value.oneCell'])
           (by omega) (by unfold maxLen; omega) (by omega) (by omega) (w6.heap.size) (by rfl) ?_
         intro g cap w7 hown7 hgrow7 hat7 hlt7
         obtain ⟨hg7, u0, u1, u2, u3, u4, z0, z1, z2, z3, z4⟩ := new_row5 hown7
         have hbx7 := (box7 (hG := HG6.out) hgrow7 hat7 (by rfl))
         obtain ⟨k0d, k1d, k2d, k3d, k4d, q0d, q1d, q2d, q3d, q4d⟩ := cells5 hbx7
         have HP : Hid (PushTo E lv en b w kd i0 j0 n0 nv nm r.md bv bnd rows t (.slice a6 l6 c6) g cap w7) := Lib.hid (push_to HG6.out HGr.out (fun hm => rep_less (rep_of hm hv6) (by simp)) hown7 hgrow7 hat7 (by rfl) hbx7))
      | (trace_state; fail))
  all_goals
    obtain ⟨h1, h2⟩ := HP.out
    unfold set5o at h1 h2
    refine HQ.out t (.slice a6 l6 c6) (.slice (some ⟨g, 0, none⟩) (rows.length + 1) cap) _ ?gs (fun t' k' h => (hv6 t' k' h).1) _ (by simp [hsz]) (fun j hj => ?ag)
    case gs =>
      first
        | with_reducible exact h1
        | with_reducible exact h2
    case ag => repeat rw [Array.getElem?_setIfInBounds_ne (by omega)]

end Go.Proofs.YtfklmcmoackepaaDoor

namespace Go.Proofs.YtfklmcmoackepaaDoor
open Go.RowKit

noncomputable def reg10 : Code := (Tryd.f49.body.bind (findRegion 10)).getD .skip

set_option maxHeartbeats 4000000 in
set_option maxRecDepth 1000000 in
theorem reg10_wp {E : REnv} {lv : Value} {en : Int} {b : Nat} {w : World} {kd i0 j0 n0 : Int} {nv : Value} {nm : List (List UInt8)} {k : Nat} {bv : Value} {bnd : List (List UInt8)} {rows : List (TT × Value)} {v : Value} {wn : World} {r : RR TT} {want : Nat} (Q : Exit → Act → World → Prop) (a : Act)
    (hsz : a.tmps.size = 122) (h0 : a.tmps[0]? = some (.pointer (some ⟨b, 0, none⟩))) (h7 : a.tmps[7]? = some (.pointer (some ⟨w.heap.size + 1, 0, none⟩))) (h8 : a.tmps[8]? = some (.int .i64 (want : Nat)))
    (hG : GSt E lv en b w kd i0 j0 n0 nv nm (.ok k) bv bnd rows v wn) (hr12 : rows.length ≤ 140)
    (hcall : ∀ W, GSt E lv en b w kd i0 j0 n0 nv nm (.ok k) bv bnd rows v W → Calls Tryd.prog 31 #[.pointer (some ⟨b, 0, none⟩), .int .i64 (want : Nat)] W (TermPost E lv en b W nv nm r))
    (hQ : ∀ (t : TT) (v1 v' : Value) (W8 : World), GSt E lv en b w kd i0 j0 n0 nv nm r.md bv bnd (rows ++ [(t, v1)]) v' W8 → (∀ t' k', r = .ok t' k' → t' = t) → ∀ arr : Array Value, arr.size = 122 → (∀ j, (j < 43 ∨ 43 + 10 ≤ j) → arr[j]? = a.tmps[j]?) → Q .normal ⟨arr, a.defers⟩ W8) :
    reg10.wp Tryd.prog Q a wn := by
  obtain ⟨i1, hi, hi0, hi1, hi2⟩ := info_parts Tryd.infoTerm
  obtain ⟨av, cv, rfl⟩ := own_form hG.own
  have hix : ((rows.length : Nat) : Int) < ((rows.length : Nat) : Int) + 1 := by omega
  have hltw := (Array.getElem?_eq_some_iff.1 hG.box).1
  have HCALL := Lib.hid hcall
  have HGr := Lib.hid hG
  have HQ := Lib.hid hQ
  obtain ⟨e0, e1, e2, e3, e4, q0, q1, q2, q3, q4⟩ := cells5 hG.box
  have s0 : a.tmps[0]'(by omega) = .pointer (some ⟨b, 0, none⟩) := (Array.getElem?_eq_some_iff.1 h0).2
  have s7 : a.tmps[7]'(by omega) = .pointer (some ⟨w.heap.size + 1, 0, none⟩) := (Array.getElem?_eq_some_iff.1 h7).2
  have s8 : a.tmps[8]'(by omega) = .int .i64 (want : Nat) := (Array.getElem?_eq_some_iff.1 h8).2
  clear hcall hG hQ h0 h7 h8
  refine wp_onlyN ?_
  conv => arg 2; whnf
  go_region_law
    (first
      | (go_simp
         go_at_call 31
         first
           | (refine (HCALL.out _ (HGr.out.drewN 1)).mono ?_
              rintro e w6 ⟨t, a6, l6, c6, rfl, ht6, hv6⟩
              have HG6 := Lib.hid (GSt.move (HGr.out.drewN 1) ht6 (fun _ => rfl))
              have hbx6 := HG6.out.box
              obtain ⟨k0c, k1c, k2c, k3c, k4c, _⟩ := cells5 hbx6
              have hown6 := HG6.out.own
              have hsz6 := (Array.getElem?_eq_some_iff.1 hbx6).1
              unfold termV)
           | (refine (HCALL.out _ ((HGr.out.alloc (.cells zero5 24)).drewN 1)).mono ?_
              rintro e w6 ⟨t, a6, l6, c6, rfl, ht6, hv6⟩
              have HG6 := Lib.hid (GSt.move ((HGr.out.alloc (.cells zero5 24)).drewN 1) ht6 (fun _ => rfl))
              have hz6 : w6.heap[wn.heap.size]? = some (.cells zero5 24 (0, 0)) := by
                rw [ht6.2.block wn.heap.size (by simp) (by have := HGr.out.old; have := HGr.out.tn.2.size; simp; omega)]
                exact new_heap _ _ _
              have hbx6 := HG6.out.box
              obtain ⟨k0c, k1c, k2c, k3c, k4c, _⟩ := cells5 hbx6
              have hown6 := HG6.out.own
              have hsz6 := (Array.getElem?_eq_some_iff.1 hbx6).1
              unfold termV))
      | (refine step_append_lies _ (by rfl) _ _ _ (by rfl) (w.heap.size + 2) 24 i1 _ 5 56 Tryd.underlying22 hi hi0 hi1 hi2 rfl (by omega) (.slice av rows.length cv) rows.length (kidCells rows) (by simp [hsz, go_sem]) (hown6.alloc _)
           ⟨w6.heap.size, 0, none⟩ 1 1 zero5.toList (by simp [hsz, go_sem]) (by simp [zero5]) (World.news_of_block (cs := zero5) (t := 24) (fr := (0, 0)) (heap_alloc_new w6 _)) (by simp [zero5, Value.oneCell'])
           (by omega) (by unfold maxLen; omega) (by omega) (by simp; omega) (w6.heap.size + 1) (by simp) ?_
         intro g cap w7 hown7 hgrow7 hat7 hlt7
         obtain ⟨hg7, u0, u1, u2, u3, u4, z0, z1, z2, z3, z4⟩ := new_row5 hown7
         have hbx7 := (box7 (hG := HG6.out.alloc (.cells zero5 24)) hgrow7 hat7 (by simp))
         obtain ⟨k0d, k1d, k2d, k3d, k4d, q0d, q1d, q2d, q3d, q4d⟩ := cells5 hbx7
         have HP : Hid (PushTo E lv en b w kd i0 j0 n0 nv nm r.md bv bnd rows t (.slice a6 l6 c6) g cap w7) := Lib.hid (push_to (HG6.out.alloc (.cells zero5 24)) HGr.out (fun hm => rep_alloc (rep_of hm hv6) _) hown7 hgrow7 hat7 (by simp) hbx7))
      | (refine step_append_lies _ (by rfl) _ _ _ (by rfl) (w.heap.size + 2) 24 i1 _ 5 56 Tryd.underlying22 hi hi0 hi1 hi2 rfl (by omega) (.slice av rows.length cv) rows.length (kidCells rows) (by simp [hsz, go_sem]) hown6
           ⟨wn.heap.size, 0, none⟩ 1 1 zero5.toList (by simp [hsz, go_sem]) (by simp [zero5]) (World.news_of_block (cs := zero5) (t := 24) (fr := (0, 0)) hz6) (by simp [zero5, Value.oneCell'])
           (by omega) (by unfold maxLen; omega) (by omega) (by omega) (w6.heap.size) (by rfl) ?_
         intro g cap w7 hown7 hgrow7 hat7 hlt7
         obtain ⟨hg7, u0, u1, u2, u3, u4, z0, z1, z2, z3, z4⟩ := new_row5 hown7
         have hbx7 := (box7 (hG := HG6.out) hgrow7 hat7 (by rfl))
         obtain ⟨k0d, k1d, k2d, k3d, k4d, q0d, q1d, q2d, q3d, q4d⟩ := cells5 hbx7
         have HP : Hid (PushTo E lv en b w kd i0 j0 n0 nv nm r.md bv bnd rows t (.slice a6 l6 c6) g cap w7) := Lib.hid (push_to HG6.out HGr.out (fun hm => rep_less (rep_of hm hv6) (by simp)) hown7 hgrow7 hat7 (by rfl) hbx7))
      | (trace_state; fail))
  all_goals
    obtain ⟨h1, h2⟩ := HP.out
    unfold set5o at h1 h2
    refine HQ.out t (.slice a6 l6 c6) (.slice (some ⟨g, 0, none⟩) (rows.length + 1) cap) _ ?gs (fun t' k' h => (hv6 t' k' h).1) _ (by simp [hsz]) (fun j hj => ?ag)
    case gs =>
      first
        | with_reducible exact h1
        | with_reducible exact h2
    case ag => repeat rw [Array.getElem?_setIfInBounds_ne (by omega)]

end Go.Proofs.YtfklmcmoackepaaDoor
