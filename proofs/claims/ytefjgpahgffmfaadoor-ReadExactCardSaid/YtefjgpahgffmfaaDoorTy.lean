/- The builder's state; walk of write.write. -/
import Derived.Test.YtefjgpahgffmfaaDoorSf
import Derived.Test.YtefjgpahgffmfaaDoorBuild
import Derived.Deep.DeepCutAuto
import Derived.StillTailTactics
namespace Go.Proofs.YtefjgpahgffmfaaDoor
open Go.RowKit

theorem isBuilder_below {T e : TypeId} {B b : Nat} {bs : List Value} {w w' : World} (h : Lib.IsBuilderF T e B b bs w) (hb : Below w.heap.size w w') : Lib.IsBuilderF T e B b bs w' := by
  have hg : w.grownBy w' none := ⟨hb.os, hb.tape, hb.output, hb.size, fun k hk _ => hb.block k hk⟩
  have key : ∀ p, Lib.BuilderAtF T e B b p bs w → Lib.BuilderAtF T e B b p bs w' := by
    intro p h
    have hlt := h.lt
    obtain ⟨hB, v, hbk, hown, hne⟩ := h
    exact ⟨hB, v, by rw [hb.block b hlt]; exact hbk, hown.kept hg (by cases hv : v.ownBlock <;> simp), hne⟩
  exact h.elim (fun x => .inl (key _ x)) (fun x => .inr (key _ x))
theorem others_below {e : TypeId} {b : Option Nat} {a w w' : World} (h : Lib.OthersKept e b a w) (hb : Below w.heap.size w w') : Lib.OthersKept e b a w' := by
  intro k x hk hbk hx
  have h1 := h k x hk hbk hx
  have hlt : k < w.heap.size := (Array.getElem?_eq_some_iff.1 h1).1
  rw [hb.block k hlt]; exact h1
theorem others_of_below {e : TypeId} {b : Option Nat} {w w' : World} (hb : Below w.heap.size w w') : Lib.OthersKept e b w w' := others_below (Lib.OthersKept.refl _ _ _) hb

/-- the builder b holds L; below, and beside it, all is as it was -/
structure ShowSt (w0 w : World) (b : Nat) (L : List UInt8) (w' : World) : Prop where
  bld : Lib.IsBuilderF tB tU w0.heap.size b (Lib.byteCells L) w'
  bel : Below w0.heap.size w0 w'
  oth : Lib.OthersKept tU (some b) w w'

theorem ShowSt.below {w0 w w1 w2 : World} {b : Nat} {L : List UInt8} (h : ShowSt w0 w b L w1) (hb : Below w1.heap.size w1 w2) : ShowSt w0 w b L w2 :=
  ⟨isBuilder_below h.bld hb, h.bel.trans (hb.mono h.bel.size), others_below h.oth hb⟩
theorem ShowSt.alloc {w0 w w1 : World} {b : Nat} {L : List UInt8} (h : ShowSt w0 w b L w1) (o : Obj) : ShowSt w0 w b L (w1.alloc o) := h.below (below_alloc _ _)
/-- behind a write -/
theorem ShowSt.wrote {w0 w w1 w2 : World} {b : Nat} {L M : List UInt8} (h : ShowSt w0 w b L w1) (h1 : Lib.BuilderAtF tB tU w0.heap.size b (.pointer (some ⟨b, 0, none⟩)) (Lib.byteCells L ++ Lib.byteCells M) w2) (h2 : Below w0.heap.size w1 w2) (h3 : Lib.OthersKept tU (some b) w1 w2) :
    ShowSt w0 w b (L ++ M) w2 := ⟨by rw [Lib.byteCells_append]; exact .inr h1, h.bel.trans h2, h.oth.trans h3⟩
/-- a block that is no row of bytes stands -/
theorem OthersKept.box {e t : TypeId} {b : Option Nat} {w w' : World} {k : Nat} {cs : Array Value} {fz : Nat × Nat} (h : Lib.OthersKept e b w w') (hk : w.heap[k]? = some (.cells cs t fz)) (hb : some k ≠ b) (ht : t ≠ e) : w'.heap[k]? = some (.cells cs t fz) :=
  h k _ hk hb (fun c f he => by injection he with _ h2; exact ht h2)

theorem heap_new (w : World) (cs : Array Value) (t : TypeId) : (w.alloc (.cells cs t)).heap[w.heap.size]? = some (.cells cs t (0, 0)) := by unfold World.alloc; simp

theorem mk_size (M : List UInt8) : (ByteArray.mk M.toArray).size = M.length := by show M.toArray.size = _; simp
theorem writeStr {w0 w w1 : World} {b : Nat} {L : List UInt8} (M : List UInt8) (h : ShowSt w0 w b L w1) (hl : L.length + M.length ≤ 70368744177664) :
    Calls Tryd.prog 54 #[.pointer (some ⟨b, 0, none⟩), .string ⟨M.toArray⟩] w1 fun e w2 => e = .returned (.tuple #[.int .i64 (M.length : Nat), .nilIface]) ∧ ShowSt w0 w b (L ++ M) w2 ∧ Lib.OthersKept tU (some b) w1 w2 := by
  refine (writeString_any w0.heap.size b (Lib.byteCells L) ⟨M.toArray⟩ w1 h.bld (by rw [Lib.byteCells_length, mk_size]; omega) h.bel.size).mono ?_
  rintro e w2 ⟨rfl, h1, h2, h3⟩
  exact ⟨by rw [mk_size], h.wrote h1 h2 h3, h3⟩
theorem writeByt {w0 w w1 : World} {b : Nat} {L : List UInt8} (c : UInt8) (n : Int) (hn : n = c.toNat) (h : ShowSt w0 w b L w1) (hl : L.length + 1 ≤ 70368744177664) :
    Calls Tryd.prog 58 #[.pointer (some ⟨b, 0, none⟩), .int .u8 n] w1 fun e w2 => e = .returned .nilIface ∧ ShowSt w0 w b (L ++ [c]) w2 ∧ Lib.OthersKept tU (some b) w1 w2 := by
  subst hn
  refine (writeByte_any w0.heap.size b (Lib.byteCells L) c.toNat w1 h.bld (by rw [Lib.byteCells_length]; omega) h.bel.size).mono ?_
  rintro e w2 ⟨rfl, h1, h2, h3⟩
  exact ⟨rfl, h.wrote (M := [c]) h1 h2 h3, h3⟩

theorem ShowSt.fresh (w : World) : ShowSt w (w.alloc (.cells #[.pointer none, .slice none 0 0] tB)) w.heap.size [] (w.alloc (.cells #[.pointer none, .slice none 0 0] tB)) :=
  ⟨Lib.IsBuilderF.of (Lib.fresh_isBuilder tB tU w), below_alloc _ _, Lib.OthersKept.refl _ _ _⟩

theorem stringOf {w0 w w1 : World} {b : Nat} {L : List UInt8} (h : ShowSt w0 w b L w1) :
    Calls Tryd.prog 36 #[.pointer (some ⟨b, 0, none⟩)] w1 fun e w2 => e = .returned (.string ⟨L.toArray⟩) ∧ Below w0.heap.size w1 w2 := by
  refine (Tryd.Builder_String_any_k w0.heap.size b L w1 h.bld h.bel.size).mono ?_
  rintro e w2 ⟨rfl, _, h2, _⟩
  exact ⟨rfl, h2⟩


theorem box_cells5 {w : World} {k : Nat} {x y z u v : Value} {t : TypeId} {fz : Nat × Nat} (h : w.heap[k]? = some (.cells #[x, y, z, u, v] t fz)) : w.cell? ⟨k, 0, none⟩ = some x ∧ w.cell? ⟨k, 1, none⟩ = some y ∧ w.cell? ⟨k, 2, none⟩ = some z ∧ w.cell? ⟨k, 3, none⟩ = some u ∧ w.cell? ⟨k, 4, none⟩ = some v :=
  ⟨Lib.cell_of_heap h 0, Lib.cell_of_heap h 1, Lib.cell_of_heap h 2, Lib.cell_of_heap h 3, Lib.cell_of_heap h 4⟩
theorem below_drewN (w : World) (n : Nat) : Below w.heap.size w (w.drewN n) := ⟨(Below.refl w.heap.size w).os, (Below.refl w.heap.size w).tape, (Below.refl w.heap.size w).output, (Below.refl w.heap.size w).size, (Below.refl w.heap.size w).block⟩
theorem neTU : 24 ≠ tU := by decide
def pc1 (k i : Int) : List UInt8 := if 0 < levelsK k then 32 :: Lib.itoa i else []
def pc2 (k j : Int) : List UInt8 := if 1 < levelsK k then 32 :: Lib.itoa j else []
def pc3 (k m : Int) : List UInt8 := if bindsK k 1 = 1 then 32 :: nameL m else []
theorem headT_eq (k i j n m : Int) : headT k i j n m = (40 :: wordF k n) ++ pc1 k i ++ pc2 k j ++ pc3 k m := by simp [headT, wordF, pc1, pc2, pc3]
theorem writeTs_append (k m : Int) : ∀ (a b : List TT) (x : Nat), writeTs k m x (a ++ b) = writeTs k m x a ++ writeTs k m (x + a.length) b
  | [], b, x => by simp [writeTs]
  | t :: a, b, x => by
    have := writeTs_append k m a b (x + 1)
    simp only [List.cons_append, writeTs, this, List.length_cons]
    rw [show x + 1 + a.length = x + (a.length + 1) by omega]
    simp
def pcJ (k m : Int) (x : Nat) : List UInt8 := if k = 22 ∧ x = 2 then 32 :: (nameL m ++ 32 :: nameL (m + 1)) else []
theorem writeTs_take {k m : Int} {ks : List TT} {q : Nat} {t : TT} (h : ks[q]? = some t) : writeTs k m 0 (ks.take (q + 1)) = writeTs k m 0 (ks.take q) ++ (pcJ k m q ++ 32 :: writeT t (m + bindsK k q)) := by
  obtain ⟨hlt, he⟩ := List.getElem?_eq_some_iff.1 h
  rw [List.take_succ_eq_append_getElem hlt, writeTs_append, he]
  simp [writeTs, pcJ, Nat.min_eq_left (Nat.le_of_lt hlt)]
theorem writeTs_take_le (k m : Int) (ks : List TT) (q : Nat) : (writeTs k m 0 (ks.take q)).length ≤ (writeTs k m 0 ks).length := by
  have := writeTs_append k m (ks.take q) (ks.drop q) 0
  rw [List.take_append_drop] at this
  rw [this]; simp
theorem writeT_open {k i j n m : Int} {ks : List TT} (hk : k ≠ 2) : writeT (.node k i j n ks) m = (40 :: wordF k n) ++ pc1 k i ++ pc2 k j ++ pc3 k m ++ writeTs k m 0 ks ++ [41] := by
  rw [← headT_eq]; simp [writeT, hk]
theorem wordF_le (k n : Int) : (wordF k n).length ≤ 32 := by
  have h1 := symK_le n
  have h2 : (wordK k).length ≤ 4 := by
    unfold wordK
    match (k - 1).toNat with
    | 0 | 1 | 2 | 3 | 4 | 5 | 6 | 7 | 8 | 9 | 10 | 11 | 12 | 13 | 14 | 15 | 16 | 17 | 18 | 19 | 20 | 21 | 22 => decide
    | m + 23 => simp [markWords]
  unfold wordF
  split <;> simp <;> omega
theorem levels_in (k : Int) : levelsK k = 0 ∨ levelsK k = 1 ∨ levelsK k = 2 := by
  by_cases h1 : k = 1 ∨ k = 10 ∨ k = 11 ∨ k = 12
  · exact .inr (.inl (by unfold levelsK; rw [if_pos h1]))
  · by_cases h2 : 3 ≤ k ∧ k ≤ 9 ∨ k = 23
    · exact .inr (.inr (by unfold levelsK; rw [if_neg h1, if_pos h2]))
    · exact .inl (by unfold levelsK; rw [if_neg h1, if_neg h2])
theorem nameL_le {n : Int} (h : In64 n) : (nameL n).length ≤ 21 := by have := itoa_le h; simp [nameL]; omega

def WriteC (N : Nat) : Prop := ∀ (k i j n : Int) (ks : List TT) (v : Value) (m : Nat) (want : Int) (w0 w : World) (b : Nat) (L : List UInt8), SizeOf.sizeOf (TT.node k i j n ks) < N → RepT w0 ks v → In4 k i j n → rightT (.node k i j n ks) want = true → m + 2 * sizeT (.node k i j n ks) ≤ 1099511627776 → Tab w0 → ShowSt w0 w b L w → L.length + (writeT (.node k i j n ks) m).length ≤ 70368744177664 →
  Calls Tryd.prog 35 #[.pointer (some ⟨b, 0, none⟩), termV k i j n v, .int .i64 m] w fun e w' => e = .returned (.tuple #[]) ∧ ShowSt w0 w b (L ++ writeT (.node k i j n ks) m) w'
set_option maxRecDepth 100000 in
set_option maxHeartbeats 8000000 in
theorem write_step (N : Nat) (ih : WriteC N) : WriteC (N + 1) := by
  intro k i j n ks v m want w0 w b L hN hrep h4 hright hsz ht hst hlen
  obtain ⟨r1, r2, r3⟩ := rightT_parts hright
  obtain ⟨hk1, hk23⟩ := kidsK_in r1
  obtain ⟨hkl, a, c, rfl⟩ := hrep.form
  unfold maxLen at hkl
  have HT := Lib.hid ht
  have HR := Lib.hid (And.intro hrep (And.intro h4 r3))
  have HS := Lib.hid hst
  have hbs : b < w.heap.size := by rcases hst.bld with h | h <;> exact h.lt
  have HNB : Hid (some w.heap.size ≠ some b) := Lib.hid (by simp; omega)
  clear ht hst hrep h4 hright r1 r3
  unfold termV
  by_cases hk : k = 2
  · subst hk
    have HV : Hid (writeT (.node 2 i j n ks) m = nameL (m - 1 - i)) := Lib.hid (by simp [writeT])
    rw [HV.out] at hlen
    have hi : 0 ≤ i ∧ i ≤ 2147483647 := by
      rw [show numbersB 2 i j n = (decide (0 ≤ i) && decide (i ≤ 2147483647) && j == 0 && n == 0) from rfl] at r2
      simp only [Bool.and_eq_true, decide_eq_true_eq] at r2
      omega
    obtain ⟨hi1, hi2⟩ := hi
    have HI : Hid (In64 (m - 1 - i)) := Lib.hid ⟨by omega, by omega⟩
    clear r2 hk1 hk23
    simp only [sizeT] at hsz
    have HLEN := Lib.hid hlen
    clear hlen
    go_enter Tryd.func35, Tryd.ntmps35
    go_wp2_with fail
    refine (name_any _ _ HI.out (HT.out.below (HS.out.bel.trans ((below_alloc w _).mono HS.out.bel.size)))).mono ?_
    rintro e w1 ⟨rfl, hb1⟩
    have HS1 := Lib.hid ((HS.out.alloc (.cells #[.int .i64 2, .int .i64 i, .int .i64 j, .int .i64 n, .slice a ks.length c] 24)).below hb1)
    clear hb1
    go_wp2_with fail
    refine (writeStr _ HS1.out HLEN.out).mono ?_
    rintro e w2 ⟨rfl, hs2, ho2⟩
    have HS2 := Lib.hid hs2
    clear hs2 ho2
    go_wp2
    refine bodyPost_ret (results_none rfl _ _ _) rfl ?_
    exact ⟨rfl, by rw [HV.out]; exact HS2.out⟩
  have HV := Lib.hid (writeT_open (i := i) (j := j) (n := n) (m := m) (ks := ks) hk)
  have hk2 : (k == 2) = false := by simp [hk]
  have hlen2 : L.length + (1 + (wordF k n).length) + (pc1 k i).length + (pc2 k j).length + (pc3 k m).length + (writeTs k m 0 ks).length + 1 ≤ 70368744177664 := by
    rw [HV.out] at hlen; simp at hlen; omega
  have HW := Lib.hid (And.intro hk1 (And.intro hk23 hk))
  have hwl := wordF_le k n
  have HL := Lib.hid (levels_in k)
  clear r2 hlen hk hk1 hk23
  simp only [sizeT] at hsz
  have E40 : Hid ((ByteArray.mk #[40]) ++ (ByteArray.mk (wordF k n).toArray) = ⟨(40 :: wordF k n).toArray⟩) := Lib.hid (str_append [40] (wordF k n))
  have EI : Hid ((ByteArray.mk #[32]) ++ (ByteArray.mk (Lib.itoa i).toArray) = ⟨(32 :: Lib.itoa i).toArray⟩) := Lib.hid (str_append [32] (Lib.itoa i))
  have EJ : Hid ((ByteArray.mk #[32]) ++ (ByteArray.mk (Lib.itoa j).toArray) = ⟨(32 :: Lib.itoa j).toArray⟩) := Lib.hid (str_append [32] (Lib.itoa j))
  have EM : Hid ((ByteArray.mk #[32]) ++ (ByteArray.mk (nameL m).toArray) = ⟨(32 :: nameL m).toArray⟩) := Lib.hid (str_append [32] (nameL m))
  have hil := itoa_le HR.out.2.1.2.1
  have hjl := itoa_le HR.out.2.1.2.2.1
  have HM : Hid (In64 (m : Int)) := Lib.hid ⟨by omega, by omega⟩
  have hml := nameL_le HM.out
  go_enter Tryd.func35, Tryd.ntmps35
  go_wp2_with fail
  refine (word_any k i j n a ks.length c _ ⟨HW.out.1, HW.out.2.1⟩ HW.out.2.2 HR.out.2.1.2.2.2).mono ?_
  rintro e w1 ⟨rfl, hb1⟩
  have hbx1 : w1.heap[w.heap.size]? = some (.cells #[.int .i64 k, .int .i64 i, .int .i64 j, .int .i64 n, .slice a ks.length c] 24 (0, 0)) := by rw [hb1.block _ (by simp)]; exact heap_new _ _ _
  have HS1 := Lib.hid ((HS.out.alloc (.cells #[.int .i64 k, .int .i64 i, .int .i64 j, .int .i64 n, .slice a ks.length c] 24)).below hb1)
  have HBX1 := Lib.hid hbx1
  clear hb1 hbx1
  go_wp2_with fail
  rw [E40.out]
  refine (writeStr (40 :: wordF k n) HS1.out (by simp only [List.length_cons]; omega)).mono ?_
  rintro e w2 ⟨rfl, hs2, ho2⟩
  have HBX2 := Lib.hid (OthersKept.box ho2 HBX1.out HNB.out neTU)
  have HS2 := Lib.hid hs2
  clear hs2 ho2
  go_upto_if 31 with fail
  go_cut [] (fun wx => ShowSt w0 w b (L ++ (40 :: wordF k n) ++ pc1 k i) wx ∧ wx.heap[w.heap.size]? = some (.cells #[.int .i64 k, .int .i64 i, .int .i64 j, .int .i64 n, .slice a ks.length c] 24 (0, 0)))
  case first =>
    obtain ⟨c0, c1, c2, c3, c4⟩ := box_cells5 HBX2.out
    by_cases hl : 0 < levelsK k
    · have HP : Hid (pc1 k i = 32 :: Lib.itoa i) := Lib.hid (by simp [pc1, hl])
      have hl2 : (0 : Int) < (levelsK k : Nat) := by omega
      rw [HP.out] at hlen2
      clear hl
      go_wp2_with fail
      refine (put_any i _ HR.out.2.1.2.1.1 HR.out.2.1.2.1.2 (HT.out.below HS2.out.bel)).mono ?_
      rintro e w3 ⟨rfl, hb3⟩
      have hbx3 : w3.heap[w.heap.size]? = some (.cells #[.int .i64 k, .int .i64 i, .int .i64 j, .int .i64 n, .slice a ks.length c] 24 (0, 0)) := by rw [hb3.block _ (Array.getElem?_eq_some_iff.1 HBX2.out).1]; exact HBX2.out
      have HS3 := Lib.hid (HS2.out.below hb3)
      have HBX3 := Lib.hid hbx3
      clear hb3 hbx3
      go_wp2_with fail
      rw [EI.out]
      refine (writeStr (32 :: Lib.itoa i) HS3.out (by simp only [List.length_append, List.length_cons] at hlen2 ⊢; omega)).mono ?_
      rintro e w4 ⟨rfl, hs4, ho4⟩
      have HBX4 := Lib.hid (OthersKept.box ho4 HBX3.out HNB.out neTU)
      have HS4 := Lib.hid hs4
      clear hs4 ho4
      go_wp2_with fail
      go_meet
      case rel => exact ⟨by rw [HP.out]; exact HS4.out, HBX4.out⟩
    · have HP : Hid (pc1 k i = []) := Lib.hid (by simp [pc1, hl])
      have hl2 : ¬ (0 : Int) < (levelsK k : Nat) := by omega
      clear hl
      go_wp2_with fail
      go_meet
      case rel => exact ⟨by rw [HP.out, List.append_nil]; exact HS2.out, HBX2.out⟩
  case rest =>
  obtain ⟨hs3, hbx3⟩ := hcut
  have HS2 := Lib.hid hs3
  have HBX2 := Lib.hid hbx3
  clear hs3 hbx3
  go_upto_if 39 with fail
  go_cut [] (fun wx => ShowSt w0 w b (L ++ (40 :: wordF k n) ++ pc1 k i ++ pc2 k j) wx ∧ wx.heap[w.heap.size]? = some (.cells #[.int .i64 k, .int .i64 i, .int .i64 j, .int .i64 n, .slice a ks.length c] 24 (0, 0)))
  case first =>
    obtain ⟨c0, c1, c2, c3, c4⟩ := box_cells5 HBX2.out
    by_cases hl : 1 < levelsK k
    · have HP : Hid (pc2 k j = 32 :: Lib.itoa j) := Lib.hid (by simp [pc2, hl])
      have hl2 : (1 : Int) < (levelsK k : Nat) := by omega
      rw [HP.out] at hlen2
      clear hl
      go_wp2_with fail
      refine (put_any j _ HR.out.2.1.2.2.1.1 HR.out.2.1.2.2.1.2 (HT.out.below HS2.out.bel)).mono ?_
      rintro e w3 ⟨rfl, hb3⟩
      have hbx3 : w3.heap[w.heap.size]? = some (.cells #[.int .i64 k, .int .i64 i, .int .i64 j, .int .i64 n, .slice a ks.length c] 24 (0, 0)) := by rw [hb3.block _ (Array.getElem?_eq_some_iff.1 HBX2.out).1]; exact HBX2.out
      have HS3 := Lib.hid (HS2.out.below hb3)
      have HBX3 := Lib.hid hbx3
      clear hb3 hbx3
      go_wp2_with fail
      rw [EJ.out]
      refine (writeStr (32 :: Lib.itoa j) HS3.out (by simp only [List.length_append, List.length_cons] at hlen2 ⊢; omega)).mono ?_
      rintro e w4 ⟨rfl, hs4, ho4⟩
      have HBX4 := Lib.hid (OthersKept.box ho4 HBX3.out HNB.out neTU)
      have HS4 := Lib.hid hs4
      clear hs4 ho4
      go_wp2_with fail
      go_meet
      case rel => exact ⟨by rw [HP.out]; exact HS4.out, HBX4.out⟩
    · have HP : Hid (pc2 k j = []) := Lib.hid (by simp [pc2, hl])
      have hl2 : ¬ (1 : Int) < (levelsK k : Nat) := by omega
      clear hl
      go_wp2_with fail
      go_meet
      case rel => exact ⟨by rw [HP.out, List.append_nil]; exact HS2.out, HBX2.out⟩
  case rest =>
  obtain ⟨hs3, hbx3⟩ := hcut
  have HS2 := Lib.hid hs3
  have HBX2 := Lib.hid hbx3
  clear hs3 hbx3
  obtain ⟨c0, c1, c2, c3, c4⟩ := box_cells5 HBX2.out
  go_wp2_with fail
  refine (binds_any k 1 _).mono ?_
  rintro e w3 ⟨rfl, rfl⟩
  go_upto_if 49 with fail
  go_cut [] (fun wx => ShowSt w0 w b (L ++ ((40 :: wordF k n) ++ pc1 k i ++ pc2 k j ++ pc3 k m)) wx ∧ wx.heap[w.heap.size]? = some (.cells #[.int .i64 k, .int .i64 i, .int .i64 j, .int .i64 n, .slice a ks.length c] 24 (0, 0)))
  case first =>
    by_cases hl : bindsK k 1 = 1
    · have HP : Hid (pc3 k m = 32 :: nameL m) := Lib.hid (by simp [pc3, hl])
      have hl2 : (bindsK k 1 == 1) = true := by simp [hl]
      rw [HP.out] at hlen2
      clear hl
      go_wp2_with fail
      refine (name_any _ _ HM.out (HT.out.below HS2.out.bel)).mono ?_
      rintro e w3 ⟨rfl, hb3⟩
      have hbx3 : w3.heap[w.heap.size]? = some (.cells #[.int .i64 k, .int .i64 i, .int .i64 j, .int .i64 n, .slice a ks.length c] 24 (0, 0)) := by rw [hb3.block _ (Array.getElem?_eq_some_iff.1 HBX2.out).1]; exact HBX2.out
      have HS3 := Lib.hid (HS2.out.below hb3)
      have HBX3 := Lib.hid hbx3
      clear hb3 hbx3
      go_wp2_with fail
      rw [EM.out]
      refine (writeStr (32 :: nameL m) HS3.out (by simp only [List.length_append, List.length_cons] at hlen2 ⊢; omega)).mono ?_
      rintro e w4 ⟨rfl, hs4, ho4⟩
      have HBX4 := Lib.hid (OthersKept.box ho4 HBX3.out HNB.out neTU)
      have HS4 := Lib.hid hs4
      clear hs4 ho4
      go_wp2_with fail
      go_meet
      case rel => exact ⟨by rw [HP.out]; have := HS4.out; simpa using this, HBX4.out⟩
    · have HP : Hid (pc3 k m = []) := Lib.hid (by simp [pc3, hl])
      have hl2 : (bindsK k 1 == 1) = false := by simp [hl]
      clear hl
      go_wp2_with fail
      go_meet
      case rel => exact ⟨by rw [HP.out]; have := HS2.out; simpa using this, HBX2.out⟩
  case rest =>
  clear c0 c1 c2 c3 c4
  obtain ⟨hs3, hbx3⟩ := hcut
  have HSF := Lib.hid hs3
  have HBX2 := Lib.hid hbx3
  clear hs3 hbx3 HS2
  clear HBX1 HS1 HS
  have HHL : Hid (((40 :: wordF k n) ++ pc1 k i ++ pc2 k j ++ pc3 k m).length = (1 + (wordF k n).length) + (pc1 k i).length + (pc2 k j).length + (pc3 k m).length) := Lib.hid (by simp; omega)
  generalize (40 :: wordF k n) ++ pc1 k i ++ pc2 k j ++ pc3 k m = HD at HSF HHL HV
  have hhl := HHL.out
  obtain ⟨c0, c1, c2, c3, c4⟩ := box_cells5 HBX2.out
  go_wp2_with fail
  clear c0 c1 c2 c3 c4
  go_loopw [58] (fun ix wr => ∃ (q : Nat), ix = .int .i64 q ∧ q ≤ ks.length ∧ ShowSt w0 w b (L ++ HD ++ writeTs k m 0 (ks.take q)) wr ∧ wr.heap[w.heap.size]? = some (.cells #[.int .i64 k, .int .i64 i, .int .i64 j, .int .i64 n, .slice a ks.length c] 24 (0, 0))) (fun x _ => ks.length - (intOf x).toNat)
  case atStart => exact ⟨0, rfl, by omega, by simpa [writeTs] using HSF.out, HBX2.out⟩
  case round =>
    obtain ⟨q, rfl, hq, hs, hbx⟩ := hrel
    have hbwr : b < wr.heap.size := by rcases hs.bld with h | h <;> exact h.lt
    by_cases hlt : q < ks.length
    · obtain ⟨b1, o1, k1, i1, j1, n1, l1, v1, rfl, _, hbs1, hj1, e0, e1, e2, e3, e4, hr1, hk1⟩ := HR.out.1.at q hlt
      obtain ⟨hl1, a1, c1, rfl⟩ := hk1.form
      clear hl1
      have d0 := (hs.bel.cell (p := ⟨b1, o1 + q * 5, none⟩) hbs1).trans e0
      have d1 := (hs.bel.cell (p := ⟨b1, o1 + q * 5 + 1, none⟩) hbs1).trans e1
      have d2 := (hs.bel.cell (p := ⟨b1, o1 + q * 5 + 2, none⟩) hbs1).trans e2
      have d3 := (hs.bel.cell (p := ⟨b1, o1 + q * 5 + 3, none⟩) hbs1).trans e3
      have d4 := (hs.bel.cell (p := ⟨b1, o1 + q * 5 + 4, none⟩) hbs1).trans e4
      have hlt1 := TT.lt hj1 k i j n
      have hs1 := sizeTs_at hj1
      have hrt := rightTs_at hj1 HR.out.2.2
      have htk := writeTs_take (k := k) (m := m) hj1
      have hle := writeTs_take_le k m ks (q + 1)
      rw [htk] at hle
      simp only [List.length_append, List.length_cons] at hle
      have hb := bindsK_in k q
      obtain ⟨bi, hbi⟩ : ∃ bi : Nat, bindsK k q = (bi : Int) := ⟨(bindsK k q).toNat, by omega⟩
      have hbi2 : bi ≤ 2 := by omega
      rw [hbi] at htk hle
      have HBC : Hid (∀ w', Calls Tryd.prog 57 #[.int .i64 k, .int .i64 q] w' fun e w'' => e = .returned (.int .i64 bi) ∧ w'' = w') := Lib.hid (fun w' => by rw [← hbi]; exact (binds_any _ _ _).mono fun _ _ h => ⟨h.1, h.2.symm⟩)
      have HK := Lib.hid (And.intro hk1 (And.intro hr1 hrt))
      have HTK := Lib.hid htk
      have HSR := Lib.hid hs
      have HBXR := Lib.hid hbx
      have hzb : w.heap.size < wr.heap.size := (Array.getElem?_eq_some_iff.1 hbx).1
      obtain ⟨x0, _, _, _, _⟩ := box_cells5 hbx
      clear hk1 hr1 hrt hj1 htk hs hbx e0 e1 e2 e3 e4 hb hbi hhl
      have hhl := HHL.out
      have hpj : (k == 22) = false ∨ (k == 22) = true ∧ (((q : Int) == 2) = false ∨ ((q : Int) == 2) = true) := by
        by_cases h1 : k = 22
        · refine .inr ⟨by simp [h1], ?_⟩
          by_cases h2 : (q : Int) = 2
          · exact .inr (by simp [h2])
          · exact .inl (by simp [h2])
        · exact .inl (by simp [h1])
      rcases hpj with p1 | ⟨p1, p2 | p2⟩
      · have HP : Hid (pcJ k m q = []) := Lib.hid (by simp [pcJ] at p1 ⊢; omega)
        have HSA : Hid (ShowSt w0 w b (L ++ HD ++ writeTs k m 0 (ks.take q) ++ pcJ k m q) (wr.alloc (.cells #[.int .i64 k1, .int .i64 i1, .int .i64 j1, .int .i64 n1, .slice a1 l1.length c1] 24))) := Lib.hid (by rw [HP.out, List.append_nil]; exact HSR.out.alloc _)
        have HKB : Hid ((wr.alloc (.cells #[.int .i64 k1, .int .i64 i1, .int .i64 j1, .int .i64 n1, .slice a1 l1.length c1] 24)).heap[wr.heap.size]? = some (.cells #[.int .i64 k1, .int .i64 i1, .int .i64 j1, .int .i64 n1, .slice a1 l1.length c1] 24 (0, 0))) := Lib.hid (heap_new _ _ _)
        have HXB : Hid ((wr.alloc (.cells #[.int .i64 k1, .int .i64 i1, .int .i64 j1, .int .i64 n1, .slice a1 l1.length c1] 24)).heap[w.heap.size]? = some (.cells #[.int .i64 k, .int .i64 i, .int .i64 j, .int .i64 n, .slice (some ⟨b1, o1, none⟩) ks.length c] 24 (0, 0))) := Lib.hid (by rw [Lib.alloc_old _ _ _ hzb]; exact HBXR.out)
        have x1 : (wr.alloc (.cells #[.int .i64 k1, .int .i64 i1, .int .i64 j1, .int .i64 n1, .slice a1 l1.length c1] 24)).cell? ⟨w.heap.size, 0, none⟩ = some (.int .i64 k) := (box_cells5 HXB.out).1
        go_wp2_with fail
        clear x0 x1 d0 d1 d2 d3 d4
        refine (writeByt 32 32 rfl HSA.out (by simp only [List.length_append]; omega)).mono ?_
        rintro e w6 ⟨rfl, hs6, ho6⟩
        have HKC := Lib.hid (OthersKept.box ho6 HKB.out (by simp; omega) neTU)
        have HXC := Lib.hid (OthersKept.box ho6 HXB.out HNB.out neTU)
        have HSB := Lib.hid hs6
        clear hs6 ho6
        go_wp2_with fail
        obtain ⟨wd, hwd⟩ : ∃ wd, w6.drew = wd := ⟨_, rfl⟩
        have HKD : Hid (wd.heap[wr.heap.size]? = some (.cells #[.int .i64 k1, .int .i64 i1, .int .i64 j1, .int .i64 n1, .slice a1 l1.length c1] 24 (0, 0))) := Lib.hid (by rw [← hwd]; exact HKC.out)
        have HXD : Hid (wd.heap[w.heap.size]? = some (.cells #[.int .i64 k, .int .i64 i, .int .i64 j, .int .i64 n, .slice (some ⟨b1, o1, none⟩) ks.length c] 24 (0, 0))) := Lib.hid (by rw [← hwd]; exact HXC.out)
        have hsd := HSB.out.below (Below.refl _ _).drew
        rw [hwd] at hsd
        have HSD := Lib.hid hsd
        refine wp_region_still_tail 8 (by kernel_rfl) (by kernel_rfl) ?_
        simp only [List.take_succ_cons, List.take_zero, List.drop_succ_cons, List.drop_zero]
        change wpStill _ _ w6.drew (fun a' => wpList _ _ _ _ a' w6.drew) _ _
        rw [hwd]
        clear hwd hsd HSB HKC HXC HSA HKB HXB
        obtain ⟨y0, y1, y2, y3, y4⟩ := box_cells5 HKD.out
        have x0 := (box_cells5 HXD.out).1
        iterate 6 still_step
        still_call (HBC.out _)
        still_step
        refine wpStill_nil ?_
        clear y0 y1 y2 y3 y4 x0
        go_wp2_with fail
        refine (ih k1 i1 j1 n1 l1 _ (m + bi) _ w0 _ b _ (by omega) HK.out.1 HK.out.2.1 HK.out.2.2 (by omega) HT.out ⟨HSD.out.bld, HSD.out.bel, Lib.OthersKept.refl _ _ _⟩ (by simp only [List.length_append, List.length_cons, List.length_nil]; push_cast; omega)).mono ?_
        rintro e w7 ⟨rfl, hs7⟩
        have hs8 : ShowSt w0 w b (L ++ HD ++ writeTs k m 0 (ks.take (q + 1))) w7 := by
          refine ⟨?_, hs7.bel, HSD.out.oth.trans hs7.oth⟩
          have := hs7.bld
          rw [HTK.out]
          simpa using this
        have HX8 := Lib.hid (OthersKept.box hs7.oth HXD.out HNB.out neTU)
        have HS8 := Lib.hid hs8
        clear hs7 hs8
        go_wp2
        go_roundw
        case rel => exact ⟨q + 1, by go_num, by omega, HS8.out, HX8.out⟩
        case measure => simp [intOf]; omega
      · have HP : Hid (pcJ k m q = []) := Lib.hid (by simp [pcJ] at p1 p2 ⊢; omega)
        have HSA : Hid (ShowSt w0 w b (L ++ HD ++ writeTs k m 0 (ks.take q) ++ pcJ k m q) (wr.alloc (.cells #[.int .i64 k1, .int .i64 i1, .int .i64 j1, .int .i64 n1, .slice a1 l1.length c1] 24))) := Lib.hid (by rw [HP.out, List.append_nil]; exact HSR.out.alloc _)
        have HKB : Hid ((wr.alloc (.cells #[.int .i64 k1, .int .i64 i1, .int .i64 j1, .int .i64 n1, .slice a1 l1.length c1] 24)).heap[wr.heap.size]? = some (.cells #[.int .i64 k1, .int .i64 i1, .int .i64 j1, .int .i64 n1, .slice a1 l1.length c1] 24 (0, 0))) := Lib.hid (heap_new _ _ _)
        have HXB : Hid ((wr.alloc (.cells #[.int .i64 k1, .int .i64 i1, .int .i64 j1, .int .i64 n1, .slice a1 l1.length c1] 24)).heap[w.heap.size]? = some (.cells #[.int .i64 k, .int .i64 i, .int .i64 j, .int .i64 n, .slice (some ⟨b1, o1, none⟩) ks.length c] 24 (0, 0))) := Lib.hid (by rw [Lib.alloc_old _ _ _ hzb]; exact HBXR.out)
        have x1 : (wr.alloc (.cells #[.int .i64 k1, .int .i64 i1, .int .i64 j1, .int .i64 n1, .slice a1 l1.length c1] 24)).cell? ⟨w.heap.size, 0, none⟩ = some (.int .i64 k) := (box_cells5 HXB.out).1
        go_wp2_with fail
        clear x0 x1 d0 d1 d2 d3 d4
        refine (writeByt 32 32 rfl HSA.out (by simp only [List.length_append]; omega)).mono ?_
        rintro e w6 ⟨rfl, hs6, ho6⟩
        have HKC := Lib.hid (OthersKept.box ho6 HKB.out (by simp; omega) neTU)
        have HXC := Lib.hid (OthersKept.box ho6 HXB.out HNB.out neTU)
        have HSB := Lib.hid hs6
        clear hs6 ho6
        go_wp2_with fail
        obtain ⟨wd, hwd⟩ : ∃ wd, w6.drew = wd := ⟨_, rfl⟩
        have HKD : Hid (wd.heap[wr.heap.size]? = some (.cells #[.int .i64 k1, .int .i64 i1, .int .i64 j1, .int .i64 n1, .slice a1 l1.length c1] 24 (0, 0))) := Lib.hid (by rw [← hwd]; exact HKC.out)
        have HXD : Hid (wd.heap[w.heap.size]? = some (.cells #[.int .i64 k, .int .i64 i, .int .i64 j, .int .i64 n, .slice (some ⟨b1, o1, none⟩) ks.length c] 24 (0, 0))) := Lib.hid (by rw [← hwd]; exact HXC.out)
        have hsd := HSB.out.below (Below.refl _ _).drew
        rw [hwd] at hsd
        have HSD := Lib.hid hsd
        refine wp_region_still_tail 8 (by kernel_rfl) (by kernel_rfl) ?_
        simp only [List.take_succ_cons, List.take_zero, List.drop_succ_cons, List.drop_zero]
        change wpStill _ _ w6.drew (fun a' => wpList _ _ _ _ a' w6.drew) _ _
        rw [hwd]
        clear hwd hsd HSB HKC HXC HSA HKB HXB
        obtain ⟨y0, y1, y2, y3, y4⟩ := box_cells5 HKD.out
        have x0 := (box_cells5 HXD.out).1
        iterate 6 still_step
        still_call (HBC.out _)
        still_step
        refine wpStill_nil ?_
        clear y0 y1 y2 y3 y4 x0
        go_wp2_with fail
        refine (ih k1 i1 j1 n1 l1 _ (m + bi) _ w0 _ b _ (by omega) HK.out.1 HK.out.2.1 HK.out.2.2 (by omega) HT.out ⟨HSD.out.bld, HSD.out.bel, Lib.OthersKept.refl _ _ _⟩ (by simp only [List.length_append, List.length_cons, List.length_nil]; push_cast; omega)).mono ?_
        rintro e w7 ⟨rfl, hs7⟩
        have hs8 : ShowSt w0 w b (L ++ HD ++ writeTs k m 0 (ks.take (q + 1))) w7 := by
          refine ⟨?_, hs7.bel, HSD.out.oth.trans hs7.oth⟩
          have := hs7.bld
          rw [HTK.out]
          simpa using this
        have HX8 := Lib.hid (OthersKept.box hs7.oth HXD.out HNB.out neTU)
        have HS8 := Lib.hid hs8
        clear hs7 hs8
        go_wp2
        go_roundw
        case rel => exact ⟨q + 1, by go_num, by omega, HS8.out, HX8.out⟩
        case measure => simp [intOf]; omega
      · have HP : Hid (pcJ k m q = 32 :: (nameL m ++ 32 :: nameL (m + 1))) := Lib.hid (by simp at p1 p2; unfold pcJ; rw [if_pos ⟨p1, by omega⟩])
        have HM1 : Hid (In64 ((m : Int) + 1)) := Lib.hid ⟨by omega, by omega⟩
        have hml1 := nameL_le HM1.out
        have E1 : Hid ((ByteArray.mk (32 :: nameL m).toArray) ++ (ByteArray.mk #[32]) = ⟨((32 :: nameL m) ++ [32]).toArray⟩) := Lib.hid (str_append (32 :: nameL m) [32])
        have E2 : Hid ((ByteArray.mk ((32 :: nameL m) ++ [32]).toArray) ++ (ByteArray.mk (nameL (m + 1)).toArray) = ⟨(((32 :: nameL m) ++ [32]) ++ nameL (m + 1)).toArray⟩) := Lib.hid (str_append _ _)
        have hlr : (writeTs k m 0 (ks.take q)).length + (1 + (nameL m).length + 1 + (nameL (m + 1)).length) + 1 ≤ (writeTs k m 0 ks).length := by
          rw [HP.out] at hle; simp at hle; omega
        have HKB0 : Hid ((wr.alloc (.cells #[.int .i64 k1, .int .i64 i1, .int .i64 j1, .int .i64 n1, .slice a1 l1.length c1] 24)).heap[wr.heap.size]? = some (.cells #[.int .i64 k1, .int .i64 i1, .int .i64 j1, .int .i64 n1, .slice a1 l1.length c1] 24 (0, 0))) := Lib.hid (heap_new _ _ _)
        have HXB0 : Hid ((wr.alloc (.cells #[.int .i64 k1, .int .i64 i1, .int .i64 j1, .int .i64 n1, .slice a1 l1.length c1] 24)).heap[w.heap.size]? = some (.cells #[.int .i64 k, .int .i64 i, .int .i64 j, .int .i64 n, .slice (some ⟨b1, o1, none⟩) ks.length c] 24 (0, 0))) := Lib.hid (by rw [Lib.alloc_old _ _ _ hzb]; exact HBXR.out)
        have x1 : (wr.alloc (.cells #[.int .i64 k1, .int .i64 i1, .int .i64 j1, .int .i64 n1, .slice a1 l1.length c1] 24)).cell? ⟨w.heap.size, 0, none⟩ = some (.int .i64 k) := (box_cells5 HXB0.out).1
        have HSW := Lib.hid (HSR.out.alloc (.cells #[.int .i64 k1, .int .i64 i1, .int .i64 j1, .int .i64 n1, .slice a1 l1.length c1] 24))
        go_wp2_with fail
        clear x0 x1 d0 d1 d2 d3 d4
        generalize wr.alloc (.cells #[.int .i64 k1, .int .i64 i1, .int .i64 j1, .int .i64 n1, .slice a1 l1.length c1] 24) = wa at HKB0 HXB0 HSW
        refine (name_any _ _ HM.out (HT.out.below HSW.out.bel)).mono ?_
        rintro e w3 ⟨rfl, hb3⟩
        have HKB1 : Hid (w3.heap[wr.heap.size]? = some (.cells #[.int .i64 k1, .int .i64 i1, .int .i64 j1, .int .i64 n1, .slice a1 l1.length c1] 24 (0, 0))) := Lib.hid (by rw [hb3.block _ (Array.getElem?_eq_some_iff.1 HKB0.out).1]; exact HKB0.out)
        have HXB1 : Hid (w3.heap[w.heap.size]? = some (.cells #[.int .i64 k, .int .i64 i, .int .i64 j, .int .i64 n, .slice (some ⟨b1, o1, none⟩) ks.length c] 24 (0, 0))) := Lib.hid (by rw [hb3.block _ (Array.getElem?_eq_some_iff.1 HXB0.out).1]; exact HXB0.out)
        have HS3 := Lib.hid (HSW.out.below hb3)
        clear hb3
        go_wp2_with fail
        refine (name_any _ _ HM1.out (HT.out.below HS3.out.bel)).mono ?_
        rintro e w4 ⟨rfl, hb4⟩
        have HKB2 : Hid (w4.heap[wr.heap.size]? = some (.cells #[.int .i64 k1, .int .i64 i1, .int .i64 j1, .int .i64 n1, .slice a1 l1.length c1] 24 (0, 0))) := Lib.hid (by rw [hb4.block _ (Array.getElem?_eq_some_iff.1 HKB1.out).1]; exact HKB1.out)
        have HXB2 : Hid (w4.heap[w.heap.size]? = some (.cells #[.int .i64 k, .int .i64 i, .int .i64 j, .int .i64 n, .slice (some ⟨b1, o1, none⟩) ks.length c] 24 (0, 0))) := Lib.hid (by rw [hb4.block _ (Array.getElem?_eq_some_iff.1 HXB1.out).1]; exact HXB1.out)
        have HS4 := Lib.hid (HS3.out.below hb4)
        clear hb4
        go_wp2_with fail
        rw [EM.out, E1.out, E2.out]
        refine (writeStr (((32 :: nameL m) ++ [32]) ++ nameL (m + 1)) HS4.out (by simp only [List.length_append, List.length_cons, List.length_nil]; omega)).mono ?_
        rintro e w5 ⟨rfl, hs5, ho5⟩
        have HKB := Lib.hid (OthersKept.box ho5 HKB2.out (by simp; omega) neTU)
        have HXB := Lib.hid (OthersKept.box ho5 HXB2.out HNB.out neTU)
        have HSA : Hid (ShowSt w0 w b (L ++ HD ++ writeTs k m 0 (ks.take q) ++ pcJ k m q) w5) := Lib.hid (by rw [HP.out]; simpa using hs5)
        clear hs5 ho5
        go_wp2_with fail
        refine (writeByt 32 32 rfl HSA.out (by simp only [List.length_append]; omega)).mono ?_
        rintro e w6 ⟨rfl, hs6, ho6⟩
        have HKC := Lib.hid (OthersKept.box ho6 HKB.out (by simp; omega) neTU)
        have HXC := Lib.hid (OthersKept.box ho6 HXB.out HNB.out neTU)
        have HSB := Lib.hid hs6
        clear hs6 ho6
        go_wp2_with fail
        obtain ⟨wd, hwd⟩ : ∃ wd, w6.drew = wd := ⟨_, rfl⟩
        have HKD : Hid (wd.heap[wr.heap.size]? = some (.cells #[.int .i64 k1, .int .i64 i1, .int .i64 j1, .int .i64 n1, .slice a1 l1.length c1] 24 (0, 0))) := Lib.hid (by rw [← hwd]; exact HKC.out)
        have HXD : Hid (wd.heap[w.heap.size]? = some (.cells #[.int .i64 k, .int .i64 i, .int .i64 j, .int .i64 n, .slice (some ⟨b1, o1, none⟩) ks.length c] 24 (0, 0))) := Lib.hid (by rw [← hwd]; exact HXC.out)
        have hsd := HSB.out.below (Below.refl _ _).drew
        rw [hwd] at hsd
        have HSD := Lib.hid hsd
        refine wp_region_still_tail 8 (by kernel_rfl) (by kernel_rfl) ?_
        simp only [List.take_succ_cons, List.take_zero, List.drop_succ_cons, List.drop_zero]
        change wpStill _ _ w6.drew (fun a' => wpList _ _ _ _ a' w6.drew) _ _
        rw [hwd]
        clear hwd hsd HSB HKC HXC HSA HKB HXB
        obtain ⟨y0, y1, y2, y3, y4⟩ := box_cells5 HKD.out
        have x0 := (box_cells5 HXD.out).1
        iterate 6 still_step
        still_call (HBC.out _)
        still_step
        refine wpStill_nil ?_
        clear y0 y1 y2 y3 y4 x0
        go_wp2_with fail
        refine (ih k1 i1 j1 n1 l1 _ (m + bi) _ w0 _ b _ (by omega) HK.out.1 HK.out.2.1 HK.out.2.2 (by omega) HT.out ⟨HSD.out.bld, HSD.out.bel, Lib.OthersKept.refl _ _ _⟩ (by simp only [List.length_append, List.length_cons, List.length_nil]; push_cast; omega)).mono ?_
        rintro e w7 ⟨rfl, hs7⟩
        have hs8 : ShowSt w0 w b (L ++ HD ++ writeTs k m 0 (ks.take (q + 1))) w7 := by
          refine ⟨?_, hs7.bel, HSD.out.oth.trans hs7.oth⟩
          have := hs7.bld
          rw [HTK.out]
          simpa using this
        have HX8 := Lib.hid (OthersKept.box hs7.oth HXD.out HNB.out neTU)
        have HS8 := Lib.hid hs8
        clear hs7 hs8
        go_wp2
        go_roundw
        case rel => exact ⟨q + 1, by go_num, by omega, HS8.out, HX8.out⟩
        case measure => simp [intOf]; omega
    · have hjl : q = ks.length := by omega
      subst hjl
      have hs2 : ShowSt w0 w b (L ++ HD ++ writeTs k m 0 ks) wr := by rw [List.take_of_length_le (Nat.le_refl _)] at hs; exact hs
      have HSR := Lib.hid hs2
      clear hs hs2
      go_wp2_with fail
      refine (writeByt 41 41 rfl HSR.out (by simp only [List.length_append]; omega)).mono ?_
      rintro e w5 ⟨rfl, hs5, ho5⟩
      have HS5 := Lib.hid hs5
      clear hs5 ho5
      go_wp2
      go_end0
      exact ⟨rfl, by rw [HV.out]; simpa using HS5.out⟩

theorem write_all : ∀ N, WriteC N
  | 0 => fun _ _ _ _ _ _ _ _ _ _ _ _ h => absurd h (Nat.not_lt_zero _)
  | N + 1 => write_step N (write_all N)
end Go.Proofs.YtefjgpahgffmfaaDoor
