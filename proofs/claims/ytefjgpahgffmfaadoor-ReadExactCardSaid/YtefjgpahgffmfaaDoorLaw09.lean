/- Walks of transhiplaw09.wakes, great, ReadSymbols. -/
import Derived.Test.YtefjgpahgffmfaaDoorSy
import Derived.Test.YtefjgpahgffmfaaDoorLaw10b
namespace Go.Proofs.YtefjgpahgffmfaaDoor
open Go.RowKit

section
variable (s : ByteArray) {nv : Value} {nm : List (List UInt8)} (i j : Nat) (w : World)
theorem read_ok {k ti tj tn : Int} {ks : List TT} {q : Nat} (ht : Tab w) (hs : s.size ≤ 1099511627776) (hN : Has w 1 nv nm.length (textRow nm)) (hnl : nm.length ≤ 1099511627776) (hij : i ≤ 1000 ∧ j ≤ 1000) (hr : readM s.data.toList nm i j = .ok (.node k ti tj tn ks) q) :
    Calls Tryd.prog 25 #[.string s, nv, .int .i64 i, .int .i64 j] w fun e w' => ∃ a c, e = .returned (.tuple #[termV k ti tj tn (.slice a ks.length c), .int .i64 0, .int .i64 0]) ∧ RepT w' ks (.slice a ks.length c) ∧ In4 k ti tj tn ∧ Below w.heap.size w w' := by
  refine (read_any s i j w ht hs hN hnl hij).mono fun e w' h => ?_
  rw [hr] at h
  obtain ⟨a, l, c, he, hrep, h4, hb⟩ := h
  obtain ⟨_, a', c', hv⟩ := hrep.form
  injection hv with h1 h2 h3
  subst h1 h2 h3
  exact ⟨_, _, he, hrep, h4, hb⟩
theorem read_bad {q p : Nat} (ht : Tab w) (hs : s.size ≤ 1099511627776) (hN : Has w 1 nv nm.length (textRow nm)) (hnl : nm.length ≤ 1099511627776) (hij : i ≤ 1000 ∧ j ≤ 1000) (hr : readM s.data.toList nm i j = .bad q) (hp : placeM s.data.toList q = p) :
    Calls Tryd.prog 25 #[.string s, nv, .int .i64 i, .int .i64 j] w fun e w' => e = .returned (.tuple #[termV 0 0 0 0 (.slice none 0 0), .int .i64 2, .int .i64 p]) ∧ Below w.heap.size w w' := by
  refine (read_any s i j w ht hs hN hnl hij).mono fun e w' h => ?_
  rw [hr] at h
  obtain ⟨he, hb⟩ := h
  rw [hp] at he
  exact ⟨he, hb⟩
end

theorem smpA : readM (ByteArray.mk #[40, 76, 97, 109, 32, 120, 32, 40, 115, 111, 114, 116, 32, 105, 41, 32, 120, 41]).data.toList [] 4 0 = .ok (.node 14 0 0 0 [.node 1 4 0 0 [], .node 2 0 0 0 []]) 9 := by kernel_rfl
theorem smpB : readM (ByteArray.mk #[40, 76, 97, 109, 32, 120, 32, 40, 115, 111, 114, 116, 32, 48, 41, 32, 121, 41]).data.toList [] 0 0 = .bad 7 := by kernel_rfl
theorem smpC : placeM (ByteArray.mk #[40, 76, 97, 109, 32, 120, 32, 40, 115, 111, 114, 116, 32, 48, 41, 32, 121, 41]).data.toList 7 = 16 := by kernel_rfl
theorem smpD : symI (ByteArray.mk #[99, 114, 101, 102, 108]).data.toList = 21 := by decide +kernel
theorem smpE : symK 1 = [117, 105, 112] := by decide +kernel
theorem symbol_is (s : ByteArray) (w : World) (n : Int) (h : (symI s.data.toList : Int) = n) : Calls Tryd.prog 30 #[.string s] w fun e w' => e = .returned (.int .i64 n) ∧ Below w.heap.size w w' := by
  rw [← h]; exact symbol_any s w
theorem rname_is (n : Int) (w : World) (L : List UInt8) (h0 : In64 n) (h : symK n = L) : Calls Tryd.prog 28 #[.int .i64 n] w fun e w' => e = .returned (.string ⟨L.toArray⟩) ∧ Below w.heap.size w w' := by
  rw [← h]; exact readName_any n w h0

/-- the two kids of a sample -/
theorem two_open {w : World} {k i j n k' i' j' n' : Int} {l l' : List TT} {a : Option Addr} {c : Nat} (h : RepT w [.node k i j n l, .node k' i' j' n' l'] (.slice a 2 c)) :
    ∃ b o, a = some ⟨b, o, none⟩ ∧ b < w.heap.size ∧ w.cell? ⟨b, o + 1, none⟩ = some (.int .i64 i) ∧ w.cell? ⟨b, o + 5 + 1, none⟩ = some (.int .i64 i') := by
  cases h with
  | row b o c ks kv hn hb hc hk =>
    have h0 := hc 0 k i j n l rfl
    have h1 := hc 1 k' i' j' n' l' rfl
    exact ⟨b, o, rfl, hb, by simpa using h0.2.1, by simpa using h1.2.1⟩

set_option maxRecDepth 100000 in
set_option maxHeartbeats 4000000 in
theorem wakes09 (w : World) (ht : Tab w) :
    Calls Tryd.prog 27 #[] w fun e w' => e = .returned (.bool true) ∧ Below w.heap.size w w' := by
  have HT := Lib.hid ht
  clear ht
  go_enter Tryd.func27, Tryd.ntmps27
  go_wp2_with fail
  refine (read_ok _ 4 0 w HT.out (by decide) (Has.nil w 1) (by decide) (by decide) smpA).mono ?_
  rintro e w1 ⟨a1, c1, rfl, hrep, _, hb⟩
  have HB1 := Lib.hid hb
  have HR1 := Lib.hid hrep
  clear hb hrep
  unfold termV
  go_wp2_with fail
  have HR1' : Hid (RepT (w1.alloc (.cells #[.int .i64 14, .int .i64 0, .int .i64 0, .int .i64 0, .slice a1 2 c1] 24)) [.node 1 4 0 0 [], .node 2 0 0 0 []] (.slice a1 2 c1)) := Lib.hid (HR1.out.kept (below_alloc _ _))
  have HBA : Hid (Below w.heap.size w (w1.alloc (.cells #[.int .i64 14, .int .i64 0, .int .i64 0, .int .i64 0, .slice a1 2 c1] 24))) := Lib.hid (HB1.out.trans ((below_alloc _ _).mono HB1.out.size))
  refine (read_bad _ 0 0 _ (HT.out.below HBA.out) (by decide) (Has.nil _ 1) (by decide) (by decide) smpB smpC).mono ?_
  rintro e w2 ⟨rfl, hb⟩
  have HB2 : Hid (Below (w1.heap.size + 1) (w1.alloc (.cells #[.int .i64 14, .int .i64 0, .int .i64 0, .int .i64 0, .slice a1 2 c1] 24)) w2) := Lib.hid (hb.mono (by simp))
  clear hb
  unfold termV
  have HB3 : Hid (Below (w1.heap.size + 1) (w1.alloc (.cells #[.int .i64 14, .int .i64 0, .int .i64 0, .int .i64 0, .slice a1 2 c1] 24)) (w2.alloc (.cells #[.int .i64 0, .int .i64 0, .int .i64 0, .int .i64 0, .slice none 0 0] 24))) := Lib.hid (HB2.out.trans ((below_alloc _ _).mono (by have := HB2.out.size; simpa using this)))
  obtain ⟨b, o, rfl, hbl, k1, k2⟩ := two_open HR1'.out
  have HF : Hid (∀ W', Below (w1.heap.size + 1) (w1.alloc (.cells #[.int .i64 14, .int .i64 0, .int .i64 0, .int .i64 0, .slice (some ⟨b, o, none⟩) 2 c1] 24)) W' → W'.cell? ⟨w1.heap.size, 0, none⟩ = some (.int .i64 14) ∧ W'.cell? ⟨w1.heap.size, 4, none⟩ = some (.slice (some ⟨b, o, none⟩) 2 c1) ∧ W'.cell? ⟨b, o + 1, none⟩ = some (.int .i64 4) ∧ W'.cell? ⟨b, o + 5 + 1, none⟩ = some (.int .i64 0) ∧ Below w.heap.size w W') := Lib.hid (fun W' h => ⟨box_cell h 0 (by simp), box_cell h 4 (by simp), (h.cell (p := ⟨b, o + 1, none⟩) (by simpa using hbl)).trans k1, (h.cell (p := ⟨b, o + 5 + 1, none⟩) (by simpa using hbl)).trans k2, HB1.out.trans ((below_of_box h).mono HB1.out.size)⟩)
  clear k1 k2 hbl
  obtain ⟨x0, x1, x2, x3, _⟩ := HF.out _ HB3.out
  go_wp2_with fail
  refine (symbol_is _ _ 21 (by rw [smpD]; rfl)).mono ?_
  rintro e w3 ⟨rfl, hb⟩
  have HB4 : Hid (Below (w1.heap.size + 1) (w1.alloc (.cells #[.int .i64 14, .int .i64 0, .int .i64 0, .int .i64 0, .slice (some ⟨b, o, none⟩) 2 c1] 24)) w3) := Lib.hid (HB3.out.trans (hb.mono (by have := HB3.out.size; simpa using this)))
  clear hb x0 x1 x2 x3
  go_wp2_with fail
  refine (rname_is 1 _ _ (by constructor <;> omega) smpE).mono ?_
  rintro e w4 ⟨rfl, hb⟩
  have HB5 : Hid (Below (w1.heap.size + 1) (w1.alloc (.cells #[.int .i64 14, .int .i64 0, .int .i64 0, .int .i64 0, .slice (some ⟨b, o, none⟩) 2 c1] 24)) w4) := Lib.hid (HB4.out.trans (hb.mono (by have := HB4.out.size; simpa using this)))
  clear hb
  go_wp2
  go_ret
  exact ⟨rfl, (HF.out _ HB5.out).2.2.2.2⟩

theorem symK_none {n : Int} : symK n = [] ↔ (n < 1 ∨ 21 < n) := by
  constructor
  · intro h
    refine Classical.byContradiction fun hc => ?_
    have h1 : 1 ≤ n ∧ n ≤ 21 := by omega
    have : ∀ m : Nat, m < 21 → symWords.getD m [] ≠ [] := by decide +kernel
    rw [symK, if_neg hc] at h
    exact this _ (by omega) h
  · intro h; rw [symK, if_pos h]
theorem symI_symK {n : Int} (h : 1 ≤ n ∧ n ≤ 21) : (symI (symK n) : Int) = n := by
  have : ∀ m : Nat, m < 21 → symI (symWords.getD m []) = m + 1 := by decide +kernel
  have h1 : ¬ (n < 1 ∨ 21 < n) := by omega
  rw [symK, if_neg h1, this _ (by omega)]
  omega
set_option maxRecDepth 100000 in
set_option maxHeartbeats 4000000 in
theorem readSymbols_walk (n : Int) (s : ByteArray) (w : World) (hn : In64 n) (ht : Tab w) :
    Calls Tryd.prog 11 #[.int .i64 n, .string s] w fun e w' => e = .returned (.bool true) ∧ Below w.heap.size w w' := by
  have HT := Lib.hid ht
  have HN := Lib.hid hn
  clear ht hn
  rcases Bool.eq_false_or_eq_true (decide (60 < (s.size : Int))) with h60 | h60
  · go_enter Tryd.func11, Tryd.ntmps11
    go_wp2
    go_ret
    exact ⟨rfl, Below.refl _ _⟩
  go_enter Tryd.func11, Tryd.ntmps11
  go_wp2_with fail
  refine (readName_any n w HN.out).mono ?_
  rintro e w1 ⟨rfl, hb⟩
  have HB1 := Lib.hid hb
  clear hb
  have e1 : (symK n).isEmpty = (decide (n < 1) || decide (21 < n)) := by
    rw [← Bool.decide_or, Bool.eq_iff_iff, List.isEmpty_iff, decide_eq_true_eq]
    exact symK_none
  have e0 : (symK n == symK n) = true := beq_self_eq_true _
  have e2 : ((symI s.data.toList : Int) == (symI s.data.toList : Int)) = true := beq_self_eq_true _
  have e3 : (n == n) = true := beq_self_eq_true _
  rcases (show (decide (n < 1) = true) ∨ (decide (n < 1) = false ∧ decide (21 < n) = true) ∨ (decide (n < 1) = false ∧ decide (21 < n) = false) by simp only [decide_eq_true_eq, decide_eq_false_iff_not]; omega) with h1 | ⟨h1, h2⟩ | ⟨h1, h2⟩
  all_goals
    simp only [h1, Bool.true_or, Bool.false_or] at e1
    try simp only [h2] at e1
    go_wp2_with fail
    refine (rName_any n _ HN.out).mono ?_
    rintro e w2 ⟨rfl, hb⟩
    have HB2 := Lib.hid (HB1.out.trans (hb.mono HB1.out.size))
    clear hb
    go_wp2_with fail
    refine (symbol_any s _).mono ?_
    rintro e w3 ⟨rfl, hb⟩
    have HB3 := Lib.hid (HB2.out.trans (hb.mono HB2.out.size))
    clear hb
    go_wp2_with fail
    refine (rsymbol_any s _).mono ?_
    rintro e w4 ⟨rfl, hb⟩
    have HB4 := Lib.hid (HB3.out.trans (hb.mono HB3.out.size))
    clear hb
    go_wp2_with fail
    first
    | (refine (wakes09 _ (HT.out.below HB4.out)).mono ?_
       rintro e w5 ⟨rfl, hb⟩
       have HB5 := Lib.hid (HB4.out.trans (hb.mono HB4.out.size))
       clear hb
       go_wp2
       go_ret
       exact ⟨rfl, HB5.out⟩)
    | (refine (symbol_is _ _ n (symI_symK (by have := of_decide_eq_false h1; have := of_decide_eq_false h2; omega))).mono ?_
       rintro e w5 ⟨rfl, hb⟩
       have HB5 := Lib.hid (HB4.out.trans (hb.mono HB4.out.size))
       clear hb
       go_wp2_with fail
       refine (wakes09 _ (HT.out.below HB5.out)).mono ?_
       rintro e w6 ⟨rfl, hb⟩
       have HB6 := Lib.hid (HB5.out.trans (hb.mono HB5.out.size))
       clear hb
       go_wp2
       go_ret
       exact ⟨rfl, HB6.out⟩)
end Go.Proofs.YtefjgpahgffmfaaDoor
