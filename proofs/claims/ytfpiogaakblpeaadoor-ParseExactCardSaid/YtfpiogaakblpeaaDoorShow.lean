/- Walk of show.show. -/
import Derived.Test.YtfpiogaakblpeaaDoorWordW
import Derived.Test.YtfpiogaakblpeaaDoorBuild
import Derived.Test.YtfpiogaakblpeaaDoorKit
namespace Go.Proofs.YtfpiogaakblpeaaDoor
open Go.RowKit

theorem isBuilder_below {T e : TypeId} {B b : Nat} {bs : List Value} {w w' : World} (h : Lib.IsBuilderF T e B b bs w) (hb : Below w.heap.size w w') : Lib.IsBuilderF T e B b bs w' := by
  have hg : w.grownBy w' none := ⟨hb.os, hb.tape, hb.output, hb.size, fun k hk _ => hb.block k hk⟩
  have key : ∀ p, Lib.BuilderAtF T e B b p bs w → Lib.BuilderAtF T e B b p bs w' := by
    intro p h
    have hlt := h.lt
    obtain ⟨hB, v, hbk, hown, hne⟩ := h
    exact ⟨hB, v, by rw [hb.block b hlt]; exact hbk, hown.kept hg (by cases hv : v.ownBlock <;> simp), hne⟩
  exact h.elim (fun x => .inl (key _ x)) (fun x => .inr (key _ x))
theorem others_below {e : TypeId} {b : Option Nat} {a w w' : World} (h : Lib.OthersKept e b a w) (hb : Below w.heap.size w w') : Lib.OthersKept e b a w' := by
  intro k x hk hbk hx
  have h1 := h k x hk hbk hx
  have hlt : k < w.heap.size := (Array.getElem?_eq_some_iff.1 h1).1
  rw [hb.block k hlt]; exact h1
theorem others_of_below {e : TypeId} {b : Option Nat} {w w' : World} (hb : Below w.heap.size w w') : Lib.OthersKept e b w w' := others_below (Lib.OthersKept.refl _ _ _) hb

/-- the builder b holds L; below, and beside it, all is as it was -/
structure ShowSt (w0 w : World) (b : Nat) (L : List UInt8) (w' : World) : Prop where
  bld : Lib.IsBuilderF tB tU w0.heap.size b (Lib.byteCells L) w'
  bel : Below w0.heap.size w0 w'
  oth : Lib.OthersKept tU (some b) w w'

theorem ShowSt.below {w0 w w1 w2 : World} {b : Nat} {L : List UInt8} (h : ShowSt w0 w b L w1) (hb : Below w1.heap.size w1 w2) : ShowSt w0 w b L w2 :=
  ⟨isBuilder_below h.bld hb, h.bel.trans (hb.mono h.bel.size), others_below h.oth hb⟩
theorem ShowSt.alloc {w0 w w1 : World} {b : Nat} {L : List UInt8} (h : ShowSt w0 w b L w1) (o : Obj) : ShowSt w0 w b L (w1.alloc o) := h.below (below_alloc _ _)
/-- behind a write -/
theorem ShowSt.wrote {w0 w w1 w2 : World} {b : Nat} {L M : List UInt8} (h : ShowSt w0 w b L w1) (h1 : Lib.BuilderAtF tB tU w0.heap.size b (.pointer (some ⟨b, 0, none⟩)) (Lib.byteCells L ++ Lib.byteCells M) w2) (h2 : Below w0.heap.size w1 w2) (h3 : Lib.OthersKept tU (some b) w1 w2) :
    ShowSt w0 w b (L ++ M) w2 := ⟨by rw [Lib.byteCells_append]; exact .inr h1, h.bel.trans h2, h.oth.trans h3⟩
/-- a block that is no row of bytes stands -/
theorem OthersKept.box {e t : TypeId} {b : Option Nat} {w w' : World} {k : Nat} {cs : Array Value} {fz : Nat × Nat} (h : Lib.OthersKept e b w w') (hk : w.heap[k]? = some (.cells cs t fz)) (hb : some k ≠ b) (ht : t ≠ e) : w'.heap[k]? = some (.cells cs t fz) :=
  h k _ hk hb (fun c f he => by injection he with _ h2; exact ht h2)

theorem box_cells {w : World} {k : Nat} {x y z : Value} {t : TypeId} {fz : Nat × Nat} (h : w.heap[k]? = some (.cells #[x, y, z] t fz)) : w.cell? ⟨k, 0, none⟩ = some x ∧ w.cell? ⟨k, 1, none⟩ = some y ∧ w.cell? ⟨k, 2, none⟩ = some z :=
  ⟨Lib.cell_of_heap h 0, Lib.cell_of_heap h 1, Lib.cell_of_heap h 2⟩
theorem heap_new (w : World) (cs : Array Value) (t : TypeId) : (w.alloc (.cells cs t)).heap[w.heap.size]? = some (.cells cs t (0, 0)) := by unfold World.alloc; simp

theorem showDs_take {ks : List DT} {j : Nat} {k : DT} (h : ks[j]? = some k) : showDs (ks.take (j + 1)) = showDs (ks.take j) ++ 32 :: showD k := by
  obtain ⟨hlt, he⟩ := List.getElem?_eq_some_iff.1 h
  rw [List.take_succ_eq_append_getElem hlt, showDs_append, he]
  simp [showDs]
theorem showDs_take_le {ks : List DT} (j : Nat) : (showDs (ks.take j)).length ≤ (showDs ks).length := by
  have := showDs_append (ks.take j) (ks.drop j)
  rw [List.take_append_drop] at this
  rw [this]; simp
theorem neDU : 24 ≠ tU := by decide

theorem mk_size (M : List UInt8) : (ByteArray.mk M.toArray).size = M.length := by show M.toArray.size = _; simp
theorem writeStr {w0 w w1 : World} {b : Nat} {L : List UInt8} (M : List UInt8) (h : ShowSt w0 w b L w1) (hl : L.length + M.length ≤ 70368744177664) :
    Calls Tryd.prog 34 #[.pointer (some ⟨b, 0, none⟩), .string ⟨M.toArray⟩] w1 fun e w2 => e = .returned (.tuple #[.int .i64 (M.length : Nat), .nilIface]) ∧ ShowSt w0 w b (L ++ M) w2 ∧ Lib.OthersKept tU (some b) w1 w2 := by
  refine (writeString_any w0.heap.size b (Lib.byteCells L) ⟨M.toArray⟩ w1 h.bld (by rw [Lib.byteCells_length, mk_size]; omega) h.bel.size).mono ?_
  rintro e w2 ⟨rfl, h1, h2, h3⟩
  exact ⟨by rw [mk_size], h.wrote h1 h2 h3, h3⟩
theorem writeByt {w0 w w1 : World} {b : Nat} {L : List UInt8} (c : UInt8) (n : Int) (hn : n = c.toNat) (h : ShowSt w0 w b L w1) (hl : L.length + 1 ≤ 70368744177664) :
    Calls Tryd.prog 35 #[.pointer (some ⟨b, 0, none⟩), .int .u8 n] w1 fun e w2 => e = .returned .nilIface ∧ ShowSt w0 w b (L ++ [c]) w2 ∧ Lib.OthersKept tU (some b) w1 w2 := by
  subst hn
  refine (writeByte_any w0.heap.size b (Lib.byteCells L) c.toNat w1 h.bld (by rw [Lib.byteCells_length]; omega) h.bel.size).mono ?_
  rintro e w2 ⟨rfl, h1, h2, h3⟩
  exact ⟨rfl, h.wrote (M := [c]) h1 h2 h3, h3⟩

/-- a derivation's text up to its kids -/
def showHead (r i : Int) : List UInt8 := 40 :: (wordI r ++ (if r = 1 ∨ r = 2 then 32 :: Lib.itoa i else []))
theorem showD_head (r i : Int) (ks : List DT) : showD (.node r i ks) = showHead r i ++ showDs ks ++ [41] := by simp [showD, showHead]

def ShowC (N : Nat) : Prop := ∀ (r i : Int) (ks : List DT) (v : Value) (w0 w : World) (b : Nat) (L : List UInt8), SizeOf.sizeOf (DT.node r i ks) < N → RepK w0 ks v → In64 r → In64 i → Tab w0 → ShowSt w0 w b L w → L.length + (showD (.node r i ks)).length ≤ 70368744177664 →
  Calls Tryd.prog 31 #[.pointer (some ⟨b, 0, none⟩), derivV r i v] w fun e w' => e = .returned (.tuple #[]) ∧ ShowSt w0 w b (L ++ showD (.node r i ks)) w'

set_option maxRecDepth 100000 in
set_option maxHeartbeats 4000000 in
theorem show_step (N : Nat) (ih : ShowC N) : ShowC (N + 1) := by
  intro r i ks v w0 w b L hN hrep hr hi ht hst hlen
  obtain ⟨hkl, a, c, rfl⟩ := hrep.form
  unfold maxLen at hkl
  have HT := Lib.hid ht
  have HR := Lib.hid (And.intro hrep (And.intro hr hi))
  have HS := Lib.hid hst
  have hbs : b < w.heap.size := by rcases hst.bld with h | h <;> exact h.lt
  have hhd := showD_head r i ks
  have hlen2 : L.length + (showHead r i).length + (showDs ks).length + 1 ≤ 70368744177664 := by
    rw [hhd] at hlen; simp at hlen; omega
  have HHD := Lib.hid hhd
  clear ht hrep hst hlen hhd hr hi
  have hw1 := wordI_le r
  have hhl : (showHead r i).length = 1 + (wordI r).length + (if r = 1 ∨ r = 2 then 32 :: Lib.itoa i else []).length := by simp [showHead]; omega
  have hq : (r == 1) = true ∨ (r == 1) = false ∧ ((r == 2) = true ∨ (r == 2) = false) := by
    by_cases h1 : r = 1
    · exact .inl (by simp [h1])
    · refine .inr ⟨by simp [h1], ?_⟩
      by_cases h2 : r = 2
      · exact .inl (by simp [h2])
      · exact .inr (by simp [h2])
  have e40 : (ByteArray.mk #[40]) ++ (ByteArray.mk (wordI r).toArray) = ⟨(40 :: wordI r).toArray⟩ := str_append [40] (wordI r)
  have e32 : (ByteArray.mk #[32]) ++ (ByteArray.mk (Lib.itoa i).toArray) = ⟨(32 :: Lib.itoa i).toArray⟩ := str_append [32] (Lib.itoa i)
  have E40 := Lib.hid e40
  have E32 := Lib.hid e32
  clear e40 e32
  have hwb : L.length + (wordI r).length + 1 ≤ 70368744177664 := by omega
  have HNB : Hid (some w.heap.size ≠ some b) := Lib.hid (by simp; omega)
  have HH1 : Hid ((r = 1 ∨ r = 2) → showHead r i = (40 :: wordI r) ++ (32 :: Lib.itoa i)) := Lib.hid (fun h => by simp [showHead, h])
  have HH2 : Hid (¬ (r = 1 ∨ r = 2) → showHead r i = 40 :: wordI r) := Lib.hid (fun h => by simp [showHead, h])
  clear hhl
  unfold derivV
  rcases hq with h1 | ⟨h1, h2 | h2⟩
  · go_enter Tryd.func31, Tryd.ntmps31
    go_wp2_with fail
    refine (word_any r _ HR.out.2.1).mono ?_
    rintro e w1 ⟨rfl, hb1⟩
    have hbx1 : w1.heap[w.heap.size]? = some (.cells #[.int .i64 r, .int .i64 i, .slice a ks.length c] 24 (0, 0)) := by rw [hb1.block _ (by simp)]; exact heap_new _ _ _
    have HS1 := Lib.hid ((HS.out.alloc (.cells #[.int .i64 r, .int .i64 i, .slice a ks.length c] 24)).below hb1)
    clear hb1
    obtain ⟨c10, c11, c12⟩ := box_cells hbx1
    have HBX1 := Lib.hid hbx1
    clear hbx1
    go_wp2_with fail
    rw [E40.out]
    refine (writeStr (40 :: wordI r) HS1.out (by simp only [List.length_cons]; omega)).mono ?_
    rintro e w2 ⟨rfl, hs2, ho2⟩
    have hbx2 := OthersKept.box ho2 HBX1.out HNB.out neDU
    have HS2 := Lib.hid hs2
    clear hs2 ho2
    obtain ⟨c20, c21, c22⟩ := box_cells hbx2
    have HBX2 := Lib.hid hbx2
    clear hbx2 c10 c11 c12
    have hr12 : r = 1 ∨ r = 2 := by simp at h1 ; omega
    have HHE := Lib.hid (HH1.out hr12)
    clear hr12
    have hhl2 : (showHead r i).length = 1 + (wordI r).length + (1 + (Lib.itoa i).length) := by rw [HHE.out]; simp; omega
    go_wp2_with fail
    refine (put_any i _ HR.out.2.2.1 HR.out.2.2.2 (HT.out.below HS2.out.bel)).mono ?_
    rintro e w3 ⟨rfl, hb3⟩
    have hbx3 : w3.heap[w.heap.size]? = some (.cells #[.int .i64 r, .int .i64 i, .slice a ks.length c] 24 (0, 0)) := by
      rw [hb3.block _ (Array.getElem?_eq_some_iff.1 HBX2.out).1]; exact HBX2.out
    have HS3 := Lib.hid (HS2.out.below hb3)
    clear hb3
    obtain ⟨c30, c31, c32⟩ := box_cells hbx3
    have HBX3 := Lib.hid hbx3
    clear hbx3 c20 c21 c22
    go_wp2_with fail
    rw [E32.out]
    refine (writeStr (32 :: Lib.itoa i) HS3.out (by simp only [List.length_append, List.length_cons]; omega)).mono ?_
    rintro e w4 ⟨rfl, hs4, ho4⟩
    have hbx4 := OthersKept.box ho4 HBX3.out HNB.out neDU
    have HSF : Hid (ShowSt w0 w b (L ++ showHead r i) w4) := Lib.hid (by rw [HHE.out, ← List.append_assoc]; exact hs4)
    clear hs4 ho4
    obtain ⟨c40, c41, c42⟩ := box_cells hbx4
    clear hbx4 c30 c31 c32
    go_wp2_with fail
    go_loopw [29] (fun ix wr => ∃ (j : Nat), ix = .int .i64 j ∧ j ≤ ks.length ∧ ShowSt w0 w b (L ++ showHead r i ++ showDs (ks.take j)) wr) (fun i _ => ks.length - (intOf i).toNat)
    case atStart => exact ⟨0, rfl, by omega, by simpa [showDs] using HSF.out⟩
    case round =>
      obtain ⟨j, rfl, hj, hs⟩ := hrel
      have hbwr : b < wr.heap.size := by rcases hs.bld with h | h <;> exact h.lt
      by_cases hlt : j < ks.length
      · obtain ⟨b1, o1, r1, i1, l1, v1, rfl, _, hbs1, hj1, e0, e1, e2, hr1, hi1, hk1⟩ := HR.out.1.at j hlt
        obtain ⟨hl1, a1, c1, rfl⟩ := hk1.form
        clear hl1
        have d0 := (hs.bel.cell (p := ⟨b1, o1 + j * 3, none⟩) hbs1).trans e0
        have d1 := (hs.bel.cell (p := ⟨b1, o1 + j * 3 + 1, none⟩) hbs1).trans e1
        have d2 := (hs.bel.cell (p := ⟨b1, o1 + j * 3 + 2, none⟩) hbs1).trans e2
        have hlt1 := DT.lt hj1 r i
        have htk := showDs_take hj1
        have hle := showDs_take_le (ks := ks) (j + 1)
        rw [htk] at hle
        simp only [List.length_append, List.length_cons] at hle
        have HK := Lib.hid (And.intro hk1 (And.intro hr1 hi1))
        have HTK := Lib.hid htk
        have HSR := Lib.hid hs
        clear hk1 hr1 hi1 hj1 htk hs e0 e1 e2
        go_wp2_with fail
        refine (writeByt 32 32 rfl (HSR.out.alloc _) (by simp only [List.length_append]; omega)).mono ?_
        rintro e w5 ⟨rfl, hs5, ho5⟩
        have hbx5 := OthersKept.box ho5 (heap_new wr #[.int .i64 r1, .int .i64 i1, .slice a1 l1.length c1] 24) (by simp; omega) neDU
        obtain ⟨q0, q1, q2⟩ := box_cells hbx5
        have HS5 := Lib.hid hs5
        clear hs5 ho5 hbx5 d0 d1 d2
        go_wp2_with fail
        refine (ih r1 i1 l1 _ w0 _ b _ (by omega) HK.out.1 HK.out.2.1 HK.out.2.2 HT.out ⟨HS5.out.bld, HS5.out.bel, Lib.OthersKept.refl _ _ _⟩ (by simp only [List.length_append, List.length_cons, List.length_nil]; omega)).mono ?_
        rintro e w6 ⟨rfl, hs6⟩
        have hs7 : ShowSt w0 w b (L ++ showHead r i ++ showDs (ks.take (j + 1))) w6 := by
          refine ⟨?_, hs6.bel, HS5.out.oth.trans hs6.oth⟩
          have := hs6.bld
          rw [HTK.out]
          simpa using this
        have HS7 := Lib.hid hs7
        clear hs6 hs7
        go_wp2
        go_round
        case rel => exact ⟨j + 1, by go_num, by omega, HS7.out⟩
        case measure => simp [intOf]; omega
      · have hjl : j = ks.length := by omega
        subst hjl
        have hs2 : ShowSt w0 w b (L ++ showHead r i ++ showDs ks) wr := by rw [List.take_of_length_le (Nat.le_refl _)] at hs; exact hs
        have HSR := Lib.hid hs2
        clear hs hs2
        go_wp2_with fail
        refine (writeByt 41 41 rfl HSR.out (by simp only [List.length_append]; omega)).mono ?_
        rintro e w5 ⟨rfl, hs5, ho5⟩
        have HS5 := Lib.hid hs5
        clear hs5 ho5
        go_wp2
        go_end0
        exact ⟨rfl, by rw [HHD.out, ← List.append_assoc, ← List.append_assoc]; exact HS5.out⟩
  · go_enter Tryd.func31, Tryd.ntmps31
    go_wp2_with fail
    refine (word_any r _ HR.out.2.1).mono ?_
    rintro e w1 ⟨rfl, hb1⟩
    have hbx1 : w1.heap[w.heap.size]? = some (.cells #[.int .i64 r, .int .i64 i, .slice a ks.length c] 24 (0, 0)) := by rw [hb1.block _ (by simp)]; exact heap_new _ _ _
    have HS1 := Lib.hid ((HS.out.alloc (.cells #[.int .i64 r, .int .i64 i, .slice a ks.length c] 24)).below hb1)
    clear hb1
    obtain ⟨c10, c11, c12⟩ := box_cells hbx1
    have HBX1 := Lib.hid hbx1
    clear hbx1
    go_wp2_with fail
    rw [E40.out]
    refine (writeStr (40 :: wordI r) HS1.out (by simp only [List.length_cons]; omega)).mono ?_
    rintro e w2 ⟨rfl, hs2, ho2⟩
    have hbx2 := OthersKept.box ho2 HBX1.out HNB.out neDU
    have HS2 := Lib.hid hs2
    clear hs2 ho2
    obtain ⟨c20, c21, c22⟩ := box_cells hbx2
    have HBX2 := Lib.hid hbx2
    clear hbx2 c10 c11 c12
    have hr12 : r = 1 ∨ r = 2 := by simp at h1 h2; omega
    have HHE := Lib.hid (HH1.out hr12)
    clear hr12
    have hhl2 : (showHead r i).length = 1 + (wordI r).length + (1 + (Lib.itoa i).length) := by rw [HHE.out]; simp; omega
    go_wp2_with fail
    refine (put_any i _ HR.out.2.2.1 HR.out.2.2.2 (HT.out.below HS2.out.bel)).mono ?_
    rintro e w3 ⟨rfl, hb3⟩
    have hbx3 : w3.heap[w.heap.size]? = some (.cells #[.int .i64 r, .int .i64 i, .slice a ks.length c] 24 (0, 0)) := by
      rw [hb3.block _ (Array.getElem?_eq_some_iff.1 HBX2.out).1]; exact HBX2.out
    have HS3 := Lib.hid (HS2.out.below hb3)
    clear hb3
    obtain ⟨c30, c31, c32⟩ := box_cells hbx3
    have HBX3 := Lib.hid hbx3
    clear hbx3 c20 c21 c22
    go_wp2_with fail
    rw [E32.out]
    refine (writeStr (32 :: Lib.itoa i) HS3.out (by simp only [List.length_append, List.length_cons]; omega)).mono ?_
    rintro e w4 ⟨rfl, hs4, ho4⟩
    have hbx4 := OthersKept.box ho4 HBX3.out HNB.out neDU
    have HSF : Hid (ShowSt w0 w b (L ++ showHead r i) w4) := Lib.hid (by rw [HHE.out, ← List.append_assoc]; exact hs4)
    clear hs4 ho4
    obtain ⟨c40, c41, c42⟩ := box_cells hbx4
    clear hbx4 c30 c31 c32
    go_wp2_with fail
    go_loopw [29] (fun ix wr => ∃ (j : Nat), ix = .int .i64 j ∧ j ≤ ks.length ∧ ShowSt w0 w b (L ++ showHead r i ++ showDs (ks.take j)) wr) (fun i _ => ks.length - (intOf i).toNat)
    case atStart => exact ⟨0, rfl, by omega, by simpa [showDs] using HSF.out⟩
    case round =>
      obtain ⟨j, rfl, hj, hs⟩ := hrel
      have hbwr : b < wr.heap.size := by rcases hs.bld with h | h <;> exact h.lt
      by_cases hlt : j < ks.length
      · obtain ⟨b1, o1, r1, i1, l1, v1, rfl, _, hbs1, hj1, e0, e1, e2, hr1, hi1, hk1⟩ := HR.out.1.at j hlt
        obtain ⟨hl1, a1, c1, rfl⟩ := hk1.form
        clear hl1
        have d0 := (hs.bel.cell (p := ⟨b1, o1 + j * 3, none⟩) hbs1).trans e0
        have d1 := (hs.bel.cell (p := ⟨b1, o1 + j * 3 + 1, none⟩) hbs1).trans e1
        have d2 := (hs.bel.cell (p := ⟨b1, o1 + j * 3 + 2, none⟩) hbs1).trans e2
        have hlt1 := DT.lt hj1 r i
        have htk := showDs_take hj1
        have hle := showDs_take_le (ks := ks) (j + 1)
        rw [htk] at hle
        simp only [List.length_append, List.length_cons] at hle
        have HK := Lib.hid (And.intro hk1 (And.intro hr1 hi1))
        have HTK := Lib.hid htk
        have HSR := Lib.hid hs
        clear hk1 hr1 hi1 hj1 htk hs e0 e1 e2
        go_wp2_with fail
        refine (writeByt 32 32 rfl (HSR.out.alloc _) (by simp only [List.length_append]; omega)).mono ?_
        rintro e w5 ⟨rfl, hs5, ho5⟩
        have hbx5 := OthersKept.box ho5 (heap_new wr #[.int .i64 r1, .int .i64 i1, .slice a1 l1.length c1] 24) (by simp; omega) neDU
        obtain ⟨q0, q1, q2⟩ := box_cells hbx5
        have HS5 := Lib.hid hs5
        clear hs5 ho5 hbx5 d0 d1 d2
        go_wp2_with fail
        refine (ih r1 i1 l1 _ w0 _ b _ (by omega) HK.out.1 HK.out.2.1 HK.out.2.2 HT.out ⟨HS5.out.bld, HS5.out.bel, Lib.OthersKept.refl _ _ _⟩ (by simp only [List.length_append, List.length_cons, List.length_nil]; omega)).mono ?_
        rintro e w6 ⟨rfl, hs6⟩
        have hs7 : ShowSt w0 w b (L ++ showHead r i ++ showDs (ks.take (j + 1))) w6 := by
          refine ⟨?_, hs6.bel, HS5.out.oth.trans hs6.oth⟩
          have := hs6.bld
          rw [HTK.out]
          simpa using this
        have HS7 := Lib.hid hs7
        clear hs6 hs7
        go_wp2
        go_round
        case rel => exact ⟨j + 1, by go_num, by omega, HS7.out⟩
        case measure => simp [intOf]; omega
      · have hjl : j = ks.length := by omega
        subst hjl
        have hs2 : ShowSt w0 w b (L ++ showHead r i ++ showDs ks) wr := by rw [List.take_of_length_le (Nat.le_refl _)] at hs; exact hs
        have HSR := Lib.hid hs2
        clear hs hs2
        go_wp2_with fail
        refine (writeByt 41 41 rfl HSR.out (by simp only [List.length_append]; omega)).mono ?_
        rintro e w5 ⟨rfl, hs5, ho5⟩
        have HS5 := Lib.hid hs5
        clear hs5 ho5
        go_wp2
        go_end0
        exact ⟨rfl, by rw [HHD.out, ← List.append_assoc, ← List.append_assoc]; exact HS5.out⟩
  · go_enter Tryd.func31, Tryd.ntmps31
    go_wp2_with fail
    refine (word_any r _ HR.out.2.1).mono ?_
    rintro e w1 ⟨rfl, hb1⟩
    have hbx1 : w1.heap[w.heap.size]? = some (.cells #[.int .i64 r, .int .i64 i, .slice a ks.length c] 24 (0, 0)) := by rw [hb1.block _ (by simp)]; exact heap_new _ _ _
    have HS1 := Lib.hid ((HS.out.alloc (.cells #[.int .i64 r, .int .i64 i, .slice a ks.length c] 24)).below hb1)
    clear hb1
    obtain ⟨c10, c11, c12⟩ := box_cells hbx1
    have HBX1 := Lib.hid hbx1
    clear hbx1
    go_wp2_with fail
    rw [E40.out]
    refine (writeStr (40 :: wordI r) HS1.out (by simp only [List.length_cons]; omega)).mono ?_
    rintro e w2 ⟨rfl, hs2, ho2⟩
    have hbx2 := OthersKept.box ho2 HBX1.out HNB.out neDU
    have HS2 := Lib.hid hs2
    clear hs2 ho2
    obtain ⟨c20, c21, c22⟩ := box_cells hbx2
    have HBX2 := Lib.hid hbx2
    clear hbx2 c10 c11 c12
    have hr12 : ¬ (r = 1 ∨ r = 2) := by simp at h1 h2; omega
    have HSF : Hid (ShowSt w0 w b (L ++ showHead r i) w2) := Lib.hid (by rw [HH2.out hr12]; exact HS2.out)
    clear hr12
    go_wp2_with fail
    go_loopw [29] (fun ix wr => ∃ (j : Nat), ix = .int .i64 j ∧ j ≤ ks.length ∧ ShowSt w0 w b (L ++ showHead r i ++ showDs (ks.take j)) wr) (fun i _ => ks.length - (intOf i).toNat)
    case atStart => exact ⟨0, rfl, by omega, by simpa [showDs] using HSF.out⟩
    case round =>
      obtain ⟨j, rfl, hj, hs⟩ := hrel
      have hbwr : b < wr.heap.size := by rcases hs.bld with h | h <;> exact h.lt
      by_cases hlt : j < ks.length
      · obtain ⟨b1, o1, r1, i1, l1, v1, rfl, _, hbs1, hj1, e0, e1, e2, hr1, hi1, hk1⟩ := HR.out.1.at j hlt
        obtain ⟨hl1, a1, c1, rfl⟩ := hk1.form
        clear hl1
        have d0 := (hs.bel.cell (p := ⟨b1, o1 + j * 3, none⟩) hbs1).trans e0
        have d1 := (hs.bel.cell (p := ⟨b1, o1 + j * 3 + 1, none⟩) hbs1).trans e1
        have d2 := (hs.bel.cell (p := ⟨b1, o1 + j * 3 + 2, none⟩) hbs1).trans e2
        have hlt1 := DT.lt hj1 r i
        have htk := showDs_take hj1
        have hle := showDs_take_le (ks := ks) (j + 1)
        rw [htk] at hle
        simp only [List.length_append, List.length_cons] at hle
        have HK := Lib.hid (And.intro hk1 (And.intro hr1 hi1))
        have HTK := Lib.hid htk
        have HSR := Lib.hid hs
        clear hk1 hr1 hi1 hj1 htk hs e0 e1 e2
        go_wp2_with fail
        refine (writeByt 32 32 rfl (HSR.out.alloc _) (by simp only [List.length_append]; omega)).mono ?_
        rintro e w5 ⟨rfl, hs5, ho5⟩
        have hbx5 := OthersKept.box ho5 (heap_new wr #[.int .i64 r1, .int .i64 i1, .slice a1 l1.length c1] 24) (by simp; omega) neDU
        obtain ⟨q0, q1, q2⟩ := box_cells hbx5
        have HS5 := Lib.hid hs5
        clear hs5 ho5 hbx5 d0 d1 d2
        go_wp2_with fail
        refine (ih r1 i1 l1 _ w0 _ b _ (by omega) HK.out.1 HK.out.2.1 HK.out.2.2 HT.out ⟨HS5.out.bld, HS5.out.bel, Lib.OthersKept.refl _ _ _⟩ (by simp only [List.length_append, List.length_cons, List.length_nil]; omega)).mono ?_
        rintro e w6 ⟨rfl, hs6⟩
        have hs7 : ShowSt w0 w b (L ++ showHead r i ++ showDs (ks.take (j + 1))) w6 := by
          refine ⟨?_, hs6.bel, HS5.out.oth.trans hs6.oth⟩
          have := hs6.bld
          rw [HTK.out]
          simpa using this
        have HS7 := Lib.hid hs7
        clear hs6 hs7
        go_wp2
        go_round
        case rel => exact ⟨j + 1, by go_num, by omega, HS7.out⟩
        case measure => simp [intOf]; omega
      · have hjl : j = ks.length := by omega
        subst hjl
        have hs2 : ShowSt w0 w b (L ++ showHead r i ++ showDs ks) wr := by rw [List.take_of_length_le (Nat.le_refl _)] at hs; exact hs
        have HSR := Lib.hid hs2
        clear hs hs2
        go_wp2_with fail
        refine (writeByt 41 41 rfl HSR.out (by simp only [List.length_append]; omega)).mono ?_
        rintro e w5 ⟨rfl, hs5, ho5⟩
        have HS5 := Lib.hid hs5
        clear hs5 ho5
        go_wp2
        go_end0
        exact ⟨rfl, by rw [HHD.out, ← List.append_assoc, ← List.append_assoc]; exact HS5.out⟩

theorem show_all : ∀ N, ShowC N
  | 0 => fun _ _ _ _ _ _ _ _ h => absurd h (Nat.not_lt_zero _)
  | N + 1 => show_step N (show_all N)
end Go.Proofs.YtfpiogaakblpeaaDoor
