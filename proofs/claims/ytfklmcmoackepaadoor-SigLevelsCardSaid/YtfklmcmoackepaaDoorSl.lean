/- Walks of the reader's level and made. -/
import Derived.Test.YtfklmcmoackepaaDoorSr
import Derived.Deep.RegionHeld3
namespace Go.Proofs.YtfklmcmoackepaaDoor
open Go.RowKit

theorem getN_le (l : List UInt8) : (getN l).getD 0 ≤ 1000000 := by
  cases hq : getN l with
  | none => simp
  | some x =>
    unfold getN at hq
    split at hq
    · simp at hq
    · split at hq
      · split at hq
        · simp at hq
        · rename_i h7
          simp only [Option.some.injEq] at hq
          simp only [Option.getD_some]
          have : ¬ 1000000 < valL l := fun h => h7 (.inl h)
          omega
      · simp at hq

/-- what a call that reads a level ends in: it is r's, with room for what follows a fault -/
def LevPost (E : REnv) (lv : Value) (en : Int) (b : Nat) (w : World) (nv : Value) (nm : List (List UInt8)) (top : Nat) (r : RR Nat) (e : Ending) (w' : World) : Prop :=
  ∃ n : Nat, e = .returned (.int .i64 n) ∧ Turn E lv en b w nv nm r.md w' ∧ (∀ a k', r = .ok a k' → n = a) ∧ n ≤ top
def LevelC (E : REnv) (lv : Value) (en : Int) (b : Nat) (fuel : Nat) : Prop :=
  ∀ (nv : Value) (nm : List (List UInt8)) (k : Nat) (w : World), Rr E lv en b w nv nm (.ok k) → E.l.length < k + fuel → fuel ≤ 2199023255552 →
    Calls Tryd.prog 58 #[.pointer (some ⟨b, 0, none⟩)] w (LevPost E lv en b w nv nm (1000000 + fuel) (levelM E fuel k))

theorem fresh3 {w : World} {t : TypeId} (n : Nat) (x y z : Value) :
    ((w.drewN n).alloc (.cells #[x, y, z] t)).cell? ⟨w.heap.size, 0, none⟩ = some x ∧ ((w.drewN n).alloc (.cells #[x, y, z] t)).cell? ⟨w.heap.size, 1, none⟩ = some y ∧ ((w.drewN n).alloc (.cells #[x, y, z] t)).cell? ⟨w.heap.size, 2, none⟩ = some z ∧
    ((w.drewN n).alloc (.cells #[x, y, z] t)).frozen? ⟨w.heap.size, 0, none⟩ = false ∧ ((w.drewN n).alloc (.cells #[x, y, z] t)).frozen? ⟨w.heap.size, 1, none⟩ = false ∧ ((w.drewN n).alloc (.cells #[x, y, z] t)).frozen? ⟨w.heap.size, 2, none⟩ = false := by
  have hh : ((w.drewN n).alloc (.cells #[x, y, z] t)).heap[w.heap.size]? = some (.cells #[x, y, z] t (0, 0)) := by unfold World.alloc; simp [World.drewN]
  have hc : ∀ j : Nat, ((w.drewN n).alloc (.cells #[x, y, z] t)).cell? ⟨w.heap.size, j, none⟩ = (#[x, y, z] : Array Value)[j]? := fun j => by simp only [World.cell?]; rw [hh]; simp
  have hf : ∀ j : Nat, ((w.drewN n).alloc (.cells #[x, y, z] t)).frozen? ⟨w.heap.size, j, none⟩ = false := fun j => by simp only [World.frozen?]; rw [hh]; simp
  exact ⟨hc 0, hc 1, hc 2, hf 0, hf 1, hf 2⟩
theorem fresh_laid (w : World) (n : Nat) (x y z x' y' z' : Value) (t : TypeId) :
    ∃ W, (((((w.drewN n).alloc (.cells #[x, y, z] t)).setCell ⟨w.heap.size, 0, none⟩ x').setCell ⟨w.heap.size, 1, none⟩ y').setCell ⟨w.heap.size, 2, none⟩ z') = W ∧ Below w.heap.size w W ∧
      W.cell? ⟨w.heap.size, 0, none⟩ = some x' ∧ W.cell? ⟨w.heap.size, 1, none⟩ = some y' ∧ W.cell? ⟨w.heap.size, 2, none⟩ = some z' := by
  have hh : ((w.drewN n).alloc (.cells #[x, y, z] t)).heap[w.heap.size]? = some (.cells #[x, y, z] t (0, 0)) := by unfold World.alloc; simp [World.drewN]
  have hh2 : (((((w.drewN n).alloc (.cells #[x, y, z] t)).setCell ⟨w.heap.size, 0, none⟩ x').setCell ⟨w.heap.size, 1, none⟩ y').setCell ⟨w.heap.size, 2, none⟩ z').heap[w.heap.size]? = some (.cells #[x', y', z'] t (0, 0)) := by
    simp only [World.setCell, Array.getElem?_modify, hh]
    simp
  refine ⟨_, rfl, ?_, ?_, ?_, ?_⟩
  · have hb : Below w.heap.size w ((w.drewN n).alloc (.cells #[x, y, z] t)) := (Below.mk rfl rfl rfl (Nat.le_refl _) (fun _ _ => rfl) : Below w.heap.size w (w.drewN n)).trans (below_alloc (w.drewN n) (.cells #[x, y, z] t))
    exact ((hb.setCell (p := ⟨w.heap.size, 0, none⟩) (Nat.le_refl _) x').setCell (p := ⟨w.heap.size, 1, none⟩) (Nat.le_refl _) y').setCell (p := ⟨w.heap.size, 2, none⟩) (Nat.le_refl _) z'
  all_goals
    simp only [World.cell?]
    rw [hh2]
    simp
theorem fresh_old {w : World} {t : TypeId} (n : Nat) (cs : Array Value) {p : Addr} (h : p.block < w.heap.size) : ((w.drewN n).alloc (.cells cs t)).cell? p = w.cell? p :=
  (below_alloc (w.drewN n) (.cells cs t)).cell (p := p) h

section
variable {E : REnv} {lv : Value} {en : Int} {b : Nat} {w : World} {nv : Value} {nm : List (List UInt8)}

set_option maxHeartbeats 1000000 in
set_option maxRecDepth 100000 in
/-- level, behind a fault -/
theorem level_bad {q : Nat} (h : Rr E lv en b w nv nm (.bad q)) :
    Calls Tryd.prog 58 #[.pointer (some ⟨b, 0, none⟩)] w fun e w' => e = .returned (.int .i64 0) ∧ Turn E lv en b w nv nm (.bad q) w' := by
  obtain ⟨kk, x', h0, h1, h2, c0, c1, c2, c3, c6, c7⟩ := h.at'
  simp only [Md.isBad] at c6
  have HR := Lib.hid h
  clear h h0 h1 h2
  go_enter Tryd.func58, Tryd.ntmps58
  go_wp2_with fail
  go_quiet (fail)
  go_wp2_with fail
  refine (fail_bad _ (HR.out.drewN _)).mono ?_
  rintro e w1 ⟨rfl, rfl⟩
  go_wp2
  go_ret
  exact ⟨rfl, HR.out.drewN _, grown_drewN (grown_refl _ _) _⟩

set_option maxHeartbeats 1000000 in
set_option maxRecDepth 100000 in
/-- level, at the end of the tokens -/
theorem level_end {k : Nat} (hk : E.l.length ≤ k) (h : Rr E lv en b w nv nm (.ok k)) :
    Calls Tryd.prog 58 #[.pointer (some ⟨b, 0, none⟩)] w fun e w' => e = .returned (.int .i64 0) ∧ Turn E lv en b w nv nm (.bad k) w' := by
  obtain ⟨c0, c1, c2, c3, c4, c5, c6, c7⟩ := h.at
  have HR := Lib.hid h
  obtain ⟨a, o, rfl⟩ : ∃ a c, lv = .slice a E.l.length c := by
    rcases h.has.2 with ⟨rfl, h0⟩ | ⟨bt, o, c, rfl, hn, hbt, hcells⟩
    · exact ⟨none, 0, by rw [h0]⟩
    · exact ⟨_, _, rfl⟩
  have hd : decide (E.l.length ≤ k) = true := by simp; omega
  have hd2 : decide ((E.l.length : Int) ≤ (k : Int)) = true := by simp; omega
  clear h
  go_enter Tryd.func58, Tryd.ntmps58
  go_wp2_with fail
  go_quiet (fail)
  have hq := HR.out.drewN nq
  obtain ⟨d0, d1, d2, d3, d4, d5, d6, d7⟩ := hq.at
  clear hq
  go_wp2_with fail
  refine (fail_ok k (HR.out.drewN nq)).mono ?_
  rintro e w1 ⟨rfl, ht⟩
  go_wp2
  go_ret
  exact ⟨rfl, ht.1, grown_trans (grown_drewN (grown_refl _ _) _) ht.2⟩

set_option maxHeartbeats 1000000 in
set_option maxRecDepth 100000 in
/-- level, at a number -/
theorem level_num {k : Nat} (hk : kindAt E.l k = 4) (h : Rr E lv en b w nv nm (.ok k)) (top : Nat) (ht : 1000000 ≤ top) :
    Calls Tryd.prog 58 #[.pointer (some ⟨b, 0, none⟩)] w (LevPost E lv en b w nv nm top (capM k ((getN (textAt E.l k)).getD 0) (k + 1))) := by
  obtain ⟨c0, c1, c2, c3, c4, c5, c6, c7⟩ := h.at
  have HR := Lib.hid h
  have hlt := kindAt_lt (l := E.l) (k := k) (by omega)
  have hfar := h.far
  rcases h.has.2 with ⟨rfl, h0⟩ | ⟨bt, o, c, rfl, hn, hbt, hcells⟩
  · omega
  unfold maxLen at hn
  have hne0 : ¬ bt = b := by simpa [Value.ownBlock] using hfar
  have hat := toksCells_at E.l k hlt
  have t0 := (hcells (k * 3) (by omega)).trans hat.1
  have t1 : w.cell? ⟨bt, o + k * 3 + 1, none⟩ = _ := (hcells (k * 3 + 1) (by omega)).trans hat.2.1
  have t2 : w.cell? ⟨bt, o + k * 3 + 2, none⟩ = _ := (hcells (k * 3 + 2) (by omega)).trans hat.2.2
  have HT : Hid (textAt E.l k = E.l[k].text) := Lib.hid (textAt_eq hlt)
  have hk4 : E.l[k].kind = 4 := by rw [← kindAt_eq hlt]; exact hk
  rw [hk4] at t0
  have hd : decide (E.l.length ≤ k) = false := by simp; omega
  have hd2 : decide ((E.l.length : Int) ≤ (k : Int)) = false := by simp; omega
  have f1 := h.fz 1
  have hbl := h.lt
  have HL := Lib.hid h.len
  obtain ⟨n, hgn⟩ : ∃ n, n = (getN (textAt E.l k)).getD 0 := ⟨_, rfl⟩
  rw [← hgn]
  have hgl : n ≤ 1000000 := by rw [hgn]; exact getN_le _
  have HN := Lib.hid hgn
  clear h hcells hat hk hfar hgn
  generalize E.l[k].text = tx at t1 HT
  generalize E.l[k].pos = ps at t2
  go_enter Tryd.func58, Tryd.ntmps58
  go_wp2_with fail
  go_quiet (fail)
  go_wp2_with fail
  have b0 := fresh3 (w := w) (t := 51) (nq + 1) (.int .i64 0) (.string ⟨#[]⟩) (.int .i64 0)
  obtain ⟨a0, a1, a2, g0, g1, g2⟩ := b0
  have o0 := fresh_old (w := w) (t := 51) (nq + 1) #[.int .i64 0, .string ⟨#[]⟩, .int .i64 0] (p := ⟨b, 0, none⟩) hbl
  have o1 := fresh_old (w := w) (t := 51) (nq + 1) #[.int .i64 0, .string ⟨#[]⟩, .int .i64 0] (p := ⟨b, 1, none⟩) hbl
  have q0 := fresh_old (w := w) (t := 51) (nq + 1) #[.int .i64 0, .string ⟨#[]⟩, .int .i64 0] (p := ⟨bt, o + k * 3, none⟩) hbt
  have q1 := fresh_old (w := w) (t := 51) (nq + 1) #[.int .i64 0, .string ⟨#[]⟩, .int .i64 0] (p := ⟨bt, o + k * 3 + 1, none⟩) hbt
  have q2 := fresh_old (w := w) (t := 51) (nq + 1) #[.int .i64 0, .string ⟨#[]⟩, .int .i64 0] (p := ⟨bt, o + k * 3 + 2, none⟩) hbt
  rw [c0] at o0
  rw [c1] at o1
  rw [t0] at q0
  rw [t1] at q1
  rw [t2] at q2
  go_region
  go_wp2_with fail
  obtain ⟨W, hW, hbW, e0, e1, e2⟩ := fresh_laid w (nq + 1) (.int .i64 0) (.string ⟨#[]⟩) (.int .i64 0) (.int .i64 4) (.string ⟨tx.toArray⟩) (.int .i64 ps) 51
  rw [hW]
  have HRW := Lib.hid (HR.out.kept hbW)
  clear hW a0 a1 a2 g0 g1 g2 o0 o1 q0 q1 q2 e0 e1 e2 c0 c1 c2 c3 c4 c5 c6 c7 t0 t1 t2
  refine (get_any _ _ (by have := HRW.out.short k; rw [HT.out] at this; unfold maxLen; simp [ByteArray.size]; omega) HRW.out.tab.tab).mono ?_
  rintro e w2 ⟨rfl, hb2⟩
  have hval : (ByteArray.mk tx.toArray).data.toList = textAt E.l k := by rw [HT.out]
  unfold getVal
  rw [hval, ← HN.out]
  have HR2 := Lib.hid (HRW.out.kept hb2)
  have HG := Lib.hid (grown_trans (grown_below (r := some b) hbW) (grown_below hb2))
  obtain ⟨d0, d1, d2, d3, d4, d5, d6, d7⟩ := HR2.out.at
  have f1' := HR2.out.fz 1
  have hb3 := HR2.out.lt
  have hl := HL.out
  clear hbW hb2 hval f1 hbl HRW
  by_cases hc : 1000 < n
  · have hgt : decide ((1000 : Int) < (n : Int)) = true := by simp; omega
    have HC : Hid (capM k n (k + 1) = .bad k) := Lib.hid (by unfold capM; rw [if_pos hc])
    have HR3 := Lib.hid (HR2.out.step (k + 1) hlt)
    obtain ⟨s0, s1, s2, s3, s4, s5, s6, s7⟩ := HR3.out.at
    simp only [Int.natCast_add, Int.natCast_one] at s0 s1 s2 s3 s4 s5 s6 s7
    go_wp2_with fail
    refine (fail_ok k HR3.out).mono ?_
    rintro e w4 ⟨rfl, ht4⟩
    go_wp2
    go_ret
    refine ⟨n, rfl, ?_, ?_, by omega⟩
    · rw [HC.out]
      exact ⟨ht4.1, grown_trans (grown_set HG.out 1 _) ht4.2⟩
    · rw [HC.out]; intro a k' h; cases h
  · have hgt : decide ((1000 : Int) < (n : Int)) = false := by simp; omega
    have HC : Hid (capM k n (k + 1) = .ok n (k + 1)) := Lib.hid (by unfold capM; rw [if_neg hc])
    have HR3 := Lib.hid (HR2.out.step (k + 1) hlt)
    obtain ⟨s0, s1, s2, s3, s4, s5, s6, s7⟩ := HR3.out.at
    simp only [Int.natCast_add, Int.natCast_one] at s0 s1 s2 s3 s4 s5 s6 s7
    go_wp2
    go_ret
    refine ⟨n, rfl, ?_, ?_, by omega⟩
    · rw [HC.out]
      exact ⟨HR3.out, grown_set HG.out 1 _⟩
    · rw [HC.out]; intro a k' h; cases h; rfl
set_option maxHeartbeats 1000000 in
set_option maxRecDepth 100000 in
/-- level, at i -/
theorem level_i {k : Nat} (hk : kindAt E.l k = 3) (hx : textAt E.l k = wI) (h : Rr E lv en b w nv nm (.ok k)) (top : Nat) (ht : 1000000 ≤ top) :
    Calls Tryd.prog 58 #[.pointer (some ⟨b, 0, none⟩)] w (LevPost E lv en b w nv nm top (capM k E.i (k + 1))) := by
  have hlt := kindAt_lt (l := E.l) (k := k) (by omega)
  obtain ⟨c0, c1, c2, c3, c4, c5, c6, c7⟩ := h.at
  have HR := Lib.hid h
  have hfar := h.far
  rcases h.has.2 with ⟨rfl, h0⟩ | ⟨bt, o, c, rfl, hn, hbt, hcells⟩
  · omega
  unfold maxLen at hn
  have hne0 : ¬ bt = b := by simpa [Value.ownBlock] using hfar
  have hat := toksCells_at E.l k hlt
  have t0 := (hcells (k * 3) (by omega)).trans hat.1
  have t1 : w.cell? ⟨bt, o + k * 3 + 1, none⟩ = _ := (hcells (k * 3 + 1) (by omega)).trans hat.2.1
  have t2 : w.cell? ⟨bt, o + k * 3 + 2, none⟩ = _ := (hcells (k * 3 + 2) (by omega)).trans hat.2.2
  have hk4 : E.l[k].kind = 3 := by rw [← kindAt_eq hlt]; exact hk
  have hx4 : E.l[k].text = [105] := by rw [← textAt_eq hlt]; exact hx
  rw [hk4] at t0
  rw [hx4] at t1
  have t0 : w.cell? ⟨bt, o + k * 3, none⟩ = some (.int .i64 3) := t0
  have t1 : w.cell? ⟨bt, o + k * 3 + 1, none⟩ = some (.string ⟨#[105]⟩) := t1
  have HC : Hid (capM k E.i (k + 1) = .ok E.i (k + 1)) := Lib.hid (by unfold capM; rw [if_neg (by have := h.lev; omega)])
  have hgt : decide ((1000 : Int) < (E.i : Int)) = false := by have := h.lev; simp; omega
  clear hk hx
  have hd : decide (E.l.length ≤ k) = false := by simp; omega
  have hd2 : decide ((E.l.length : Int) ≤ (k : Int)) = false := by simp; omega
  have hbl := h.lt
  have HL := Lib.hid h.len
  have HLV := Lib.hid h.lev
  clear h hcells hat hfar
  generalize E.l[k].pos = ps at t2
  go_enter Tryd.func58, Tryd.ntmps58
  go_wp2_with fail
  go_quiet (fail)
  go_wp2_with fail
  have b0 := fresh3 (w := w) (t := 51) (nq + 1) (.int .i64 0) (.string ⟨#[]⟩) (.int .i64 0)
  obtain ⟨a0, a1, a2, g0, g1, g2⟩ := b0
  have o0 := fresh_old (w := w) (t := 51) (nq + 1) #[.int .i64 0, .string ⟨#[]⟩, .int .i64 0] (p := ⟨b, 0, none⟩) hbl
  have o1 := fresh_old (w := w) (t := 51) (nq + 1) #[.int .i64 0, .string ⟨#[]⟩, .int .i64 0] (p := ⟨b, 1, none⟩) hbl
  have q0 := fresh_old (w := w) (t := 51) (nq + 1) #[.int .i64 0, .string ⟨#[]⟩, .int .i64 0] (p := ⟨bt, o + k * 3, none⟩) hbt
  have q1 := fresh_old (w := w) (t := 51) (nq + 1) #[.int .i64 0, .string ⟨#[]⟩, .int .i64 0] (p := ⟨bt, o + k * 3 + 1, none⟩) hbt
  have q2 := fresh_old (w := w) (t := 51) (nq + 1) #[.int .i64 0, .string ⟨#[]⟩, .int .i64 0] (p := ⟨bt, o + k * 3 + 2, none⟩) hbt
  rw [c0] at o0
  rw [c1] at o1
  rw [t0] at q0
  rw [t1] at q1
  rw [t2] at q2
  go_region
  obtain ⟨W, hW, hbW, e0, e1, e2⟩ := fresh_laid w (nq + 1) (.int .i64 0) (.string ⟨#[]⟩) (.int .i64 0) (.int .i64 3) (.string ⟨#[105]⟩) (.int .i64 ps) 51
  rw [hW]
  have HRW := Lib.hid (HR.out.kept hbW)
  have htW : w.heap.size < W.heap.size := World.block_lt_of_cell? W ⟨w.heap.size, 0, none⟩ e0
  clear hW a0 a1 a2 g0 g1 g2 o0 o1 q0 q1 q2 c0 c1 c2 c3 c4 c5 c6 c7 t0 t1 t2
  obtain ⟨d0, d1, d2, d3, d4, d5, d6, d7⟩ := HRW.out.at
  have f1 := HRW.out.fz 1
  have hb3 := HRW.out.lt
  have hl := HL.out
  have hne : ¬ w.heap.size = b := by omega
  have hne' : ¬ b = w.heap.size := by omega
  have HR3 := Lib.hid (HRW.out.step (k + 1) hlt)
  obtain ⟨s0, s1, s2, s3, s4, s5, s6, s7⟩ := HR3.out.at
  simp only [Int.natCast_add, Int.natCast_one] at s0 s1 s2 s3 s4 s5 s6 s7
  go_wp2
  go_ret
  refine ⟨E.i, rfl, ?_, ?_, by have := HLV.out; omega⟩
  · rw [HC.out]
    exact ⟨HR3.out, grown_set (grown_below hbW) 1 _⟩
  · rw [HC.out]; intro a k' h; cases h; rfl

set_option maxHeartbeats 1000000 in
set_option maxRecDepth 100000 in
/-- level, at j -/
theorem level_j {k : Nat} (hk : kindAt E.l k = 3) (hx : textAt E.l k = wJ) (h : Rr E lv en b w nv nm (.ok k)) (top : Nat) (ht : 1000000 ≤ top) :
    Calls Tryd.prog 58 #[.pointer (some ⟨b, 0, none⟩)] w (LevPost E lv en b w nv nm top (capM k E.j (k + 1))) := by
  have hlt := kindAt_lt (l := E.l) (k := k) (by omega)
  obtain ⟨c0, c1, c2, c3, c4, c5, c6, c7⟩ := h.at
  have HR := Lib.hid h
  have hfar := h.far
  rcases h.has.2 with ⟨rfl, h0⟩ | ⟨bt, o, c, rfl, hn, hbt, hcells⟩
  · omega
  unfold maxLen at hn
  have hne0 : ¬ bt = b := by simpa [Value.ownBlock] using hfar
  have hat := toksCells_at E.l k hlt
  have t0 := (hcells (k * 3) (by omega)).trans hat.1
  have t1 : w.cell? ⟨bt, o + k * 3 + 1, none⟩ = _ := (hcells (k * 3 + 1) (by omega)).trans hat.2.1
  have t2 : w.cell? ⟨bt, o + k * 3 + 2, none⟩ = _ := (hcells (k * 3 + 2) (by omega)).trans hat.2.2
  have hk4 : E.l[k].kind = 3 := by rw [← kindAt_eq hlt]; exact hk
  have hx4 : E.l[k].text = [106] := by rw [← textAt_eq hlt]; exact hx
  rw [hk4] at t0
  rw [hx4] at t1
  have t0 : w.cell? ⟨bt, o + k * 3, none⟩ = some (.int .i64 3) := t0
  have t1 : w.cell? ⟨bt, o + k * 3 + 1, none⟩ = some (.string ⟨#[106]⟩) := t1
  have HC : Hid (capM k E.j (k + 1) = .ok E.j (k + 1)) := Lib.hid (by unfold capM; rw [if_neg (by have := h.lev; omega)])
  have hgt : decide ((1000 : Int) < (E.j : Int)) = false := by have := h.lev; simp; omega
  clear hk hx
  have hd : decide (E.l.length ≤ k) = false := by simp; omega
  have hd2 : decide ((E.l.length : Int) ≤ (k : Int)) = false := by simp; omega
  have hbl := h.lt
  have HL := Lib.hid h.len
  have HLV := Lib.hid h.lev
  clear h hcells hat hfar
  generalize E.l[k].pos = ps at t2
  go_enter Tryd.func58, Tryd.ntmps58
  go_wp2_with fail
  go_quiet (fail)
  go_wp2_with fail
  have b0 := fresh3 (w := w) (t := 51) (nq + 1) (.int .i64 0) (.string ⟨#[]⟩) (.int .i64 0)
  obtain ⟨a0, a1, a2, g0, g1, g2⟩ := b0
  have o0 := fresh_old (w := w) (t := 51) (nq + 1) #[.int .i64 0, .string ⟨#[]⟩, .int .i64 0] (p := ⟨b, 0, none⟩) hbl
  have o1 := fresh_old (w := w) (t := 51) (nq + 1) #[.int .i64 0, .string ⟨#[]⟩, .int .i64 0] (p := ⟨b, 1, none⟩) hbl
  have q0 := fresh_old (w := w) (t := 51) (nq + 1) #[.int .i64 0, .string ⟨#[]⟩, .int .i64 0] (p := ⟨bt, o + k * 3, none⟩) hbt
  have q1 := fresh_old (w := w) (t := 51) (nq + 1) #[.int .i64 0, .string ⟨#[]⟩, .int .i64 0] (p := ⟨bt, o + k * 3 + 1, none⟩) hbt
  have q2 := fresh_old (w := w) (t := 51) (nq + 1) #[.int .i64 0, .string ⟨#[]⟩, .int .i64 0] (p := ⟨bt, o + k * 3 + 2, none⟩) hbt
  rw [c0] at o0
  rw [c1] at o1
  rw [t0] at q0
  rw [t1] at q1
  rw [t2] at q2
  go_region
  obtain ⟨W, hW, hbW, e0, e1, e2⟩ := fresh_laid w (nq + 1) (.int .i64 0) (.string ⟨#[]⟩) (.int .i64 0) (.int .i64 3) (.string ⟨#[106]⟩) (.int .i64 ps) 51
  rw [hW]
  have HRW := Lib.hid (HR.out.kept hbW)
  have htW : w.heap.size < W.heap.size := World.block_lt_of_cell? W ⟨w.heap.size, 0, none⟩ e0
  clear hW a0 a1 a2 g0 g1 g2 o0 o1 q0 q1 q2 c0 c1 c2 c3 c4 c5 c6 c7 t0 t1 t2
  obtain ⟨d0, d1, d2, d3, d4, d5, d6, d7⟩ := HRW.out.at
  have f1 := HRW.out.fz 1
  have hb3 := HRW.out.lt
  have hl := HL.out
  have hne : ¬ w.heap.size = b := by omega
  have hne' : ¬ b = w.heap.size := by omega
  have HR3 := Lib.hid (HRW.out.step (k + 1) hlt)
  obtain ⟨s0, s1, s2, s3, s4, s5, s6, s7⟩ := HR3.out.at
  simp only [Int.natCast_add, Int.natCast_one] at s0 s1 s2 s3 s4 s5 s6 s7
  go_wp2
  go_ret
  refine ⟨E.j, rfl, ?_, ?_, by have := HLV.out; omega⟩
  · rw [HC.out]
    exact ⟨HR3.out, grown_set (grown_below hbW) 1 _⟩
  · rw [HC.out]; intro a k' h; cases h; rfl

set_option maxHeartbeats 1000000 in
set_option maxRecDepth 100000 in
/-- level, at anything else -/
theorem level_else {k : Nat} (hlt : k < E.l.length) (h4 : kindAt E.l k ≠ 4) (h1 : kindAt E.l k ≠ 1) (hi : kindAt E.l k = 3 → textAt E.l k ≠ wI) (hj : kindAt E.l k = 3 → textAt E.l k ≠ wJ) (h : Rr E lv en b w nv nm (.ok k)) (top : Nat) :
    Calls Tryd.prog 58 #[.pointer (some ⟨b, 0, none⟩)] w (LevPost E lv en b w nv nm top (.bad k)) := by
  obtain ⟨c0, c1, c2, c3, c4, c5, c6, c7⟩ := h.at
  have HR := Lib.hid h
  have hfar := h.far
  rcases h.has.2 with ⟨rfl, h0⟩ | ⟨bt, o, c, rfl, hn, hbt, hcells⟩
  · omega
  unfold maxLen at hn
  have hne0 : ¬ bt = b := by simpa [Value.ownBlock] using hfar
  have hat := toksCells_at E.l k hlt
  have t0 := (hcells (k * 3) (by omega)).trans hat.1
  have t1 : w.cell? ⟨bt, o + k * 3 + 1, none⟩ = _ := (hcells (k * 3 + 1) (by omega)).trans hat.2.1
  have t2 : w.cell? ⟨bt, o + k * 3 + 2, none⟩ = _ := (hcells (k * 3 + 2) (by omega)).trans hat.2.2
  have hk4 : kindAt E.l k = E.l[k].kind := kindAt_eq hlt
  have hx4 : textAt E.l k = E.l[k].text := textAt_eq hlt
  rw [hk4] at h4 h1 hi hj
  rw [hx4] at hi hj
  generalize E.l[k].kind = kk at t0 h4 h1 hi hj
  generalize E.l[k].text = tx at t1 hi hj
  have k4 : ((kk : Int) == 4) = false := by simp; omega
  have k1 : ((kk : Int) == 1) = false := by simp; omega
  have k3 : (((kk : Int) == 3) = true ∧ (tx == [105]) = false ∧ (tx == [106]) = false) ∨ ((kk : Int) == 3) = false := by
    by_cases h3 : kk = 3
    · exact .inl ⟨by simp [h3], by simpa [wI] using hi h3, by simpa [wJ] using hj h3⟩
    · exact .inr (by simp; omega)
  clear hk4 hx4 h4 h1 hi hj
  have hd : decide (E.l.length ≤ k) = false := by simp; omega
  have hd2 : decide ((E.l.length : Int) ≤ (k : Int)) = false := by simp; omega
  have hbl := h.lt
  have HL := Lib.hid h.len
  have HLV := Lib.hid h.lev
  clear h hcells hat hfar
  generalize E.l[k].pos = ps at t2
  go_enter Tryd.func58, Tryd.ntmps58
  go_wp2_with fail
  go_quiet (fail)
  go_wp2_with fail
  have b0 := fresh3 (w := w) (t := 51) (nq + 1) (.int .i64 0) (.string ⟨#[]⟩) (.int .i64 0)
  obtain ⟨a0, a1, a2, g0, g1, g2⟩ := b0
  have o0 := fresh_old (w := w) (t := 51) (nq + 1) #[.int .i64 0, .string ⟨#[]⟩, .int .i64 0] (p := ⟨b, 0, none⟩) hbl
  have o1 := fresh_old (w := w) (t := 51) (nq + 1) #[.int .i64 0, .string ⟨#[]⟩, .int .i64 0] (p := ⟨b, 1, none⟩) hbl
  have q0 := fresh_old (w := w) (t := 51) (nq + 1) #[.int .i64 0, .string ⟨#[]⟩, .int .i64 0] (p := ⟨bt, o + k * 3, none⟩) hbt
  have q1 := fresh_old (w := w) (t := 51) (nq + 1) #[.int .i64 0, .string ⟨#[]⟩, .int .i64 0] (p := ⟨bt, o + k * 3 + 1, none⟩) hbt
  have q2 := fresh_old (w := w) (t := 51) (nq + 1) #[.int .i64 0, .string ⟨#[]⟩, .int .i64 0] (p := ⟨bt, o + k * 3 + 2, none⟩) hbt
  rw [c0] at o0
  rw [c1] at o1
  rw [t0] at q0
  rw [t1] at q1
  rw [t2] at q2
  go_region
  obtain ⟨W, hW, hbW, e0, e1, e2⟩ := fresh_laid w (nq + 1) (.int .i64 0) (.string ⟨#[]⟩) (.int .i64 0) (.int .i64 kk) (.string ⟨tx.toArray⟩) (.int .i64 ps) 51
  rw [hW]
  have HRW := Lib.hid (HR.out.kept hbW)
  have htW : w.heap.size < W.heap.size := World.block_lt_of_cell? W ⟨w.heap.size, 0, none⟩ e0
  clear hW a0 a1 a2 g0 g1 g2 o0 o1 q0 q1 q2 c0 c1 c2 c3 c4 c5 c6 c7 t0 t1 t2
  obtain ⟨d0, d1, d2, d3, d4, d5, d6, d7⟩ := HRW.out.at
  have f1 := HRW.out.fz 1
  have hb3 := HRW.out.lt
  have hl := HL.out
  have hne : ¬ w.heap.size = b := by omega
  have hne' : ¬ b = w.heap.size := by omega
  rcases k3 with ⟨k3, x1, x2⟩ | k3
  all_goals
    go_wp2_with fail
    refine (fail_ok k HRW.out).mono ?_
    rintro e w4 ⟨rfl, ht4⟩
    have hq : w4.cell? ⟨b, 6, none⟩ = some (.bool true) := by
      obtain ⟨kk', x', u0, u1, u2, u3, u4, u5, u6, u7, u8⟩ := ht4.1.at'
      exact u7
    go_wp2
    go_ret
    refine ⟨0, rfl, ?_, ?_, by omega⟩
    · exact ⟨ht4.1, grown_trans (grown_below hbW) ht4.2⟩
    · intro a k' h; cases h

/-- what stands within a level's brackets -/
def clM (E : REnv) (n k : Nat) : RR Nat := if kindAt E.l k = 2 then .ok n (k + 1) else .bad k
def madeM (E : REnv) (f k : Nat) : RR Nat :=
  if kindAt E.l k = 3 ∧ textAt E.l k = wSuc then (levelM E f (k + 1)).bind fun n k' => clM E (n + 1) k'
  else if kindAt E.l k = 3 ∧ textAt E.l k = wMax then (levelM E f (k + 1)).bind fun n k' => (levelM E f k').bind fun m k'' => clM E (max n m) k''
  else .bad k
theorem shutM_eq (q n k : Nat) : shutM E q n k = (clM E n k).bind fun n k' => capM q n k' := by
  unfold shutM clM
  split <;> rfl
theorem levelM_open (f k : Nat) (h : kindAt E.l k = 1) : levelM E (f + 1) k = (madeM E f (k + 1)).bind fun n k' => capM k n k' := by
  rw [levelM, if_neg (by omega), if_neg (by omega), if_neg (by omega), if_pos h]
  unfold madeM
  split
  · simp only [RR.bind_assoc, shutM_eq]
  · split
    · simp only [RR.bind_assoc, shutM_eq]
    · rfl
theorem levelM_else (f k : Nat) (h4 : kindAt E.l k ≠ 4) (h1 : kindAt E.l k ≠ 1) (hi : kindAt E.l k = 3 → textAt E.l k ≠ wI) (hj : kindAt E.l k = 3 → textAt E.l k ≠ wJ) : levelM E (f + 1) k = .bad k := by
  rw [levelM, if_neg h4, if_neg (fun h => hi h.1 h.2), if_neg (fun h => hj h.1 h.2), if_neg h1]

theorem LevPost.of_bad {top q : Nat} {n : Nat} {w' : World} (ht : Turn E lv en b w nv nm (.bad q) w') (hn : n ≤ top) : LevPost E lv en b w nv nm top (.bad q) (.returned (.int .i64 n)) w' :=
  ⟨n, rfl, ht, (fun a k' h => by cases h), hn⟩
theorem LevPost.of_ok {top k n : Nat} {w' : World} (ht : Turn E lv en b w nv nm (.ok k) w') (hn : n ≤ top) : LevPost E lv en b w nv nm top (.ok n k) (.returned (.int .i64 n)) w' :=
  ⟨n, rfl, ht, (fun a k' h => by cases h; rfl), hn⟩

set_option maxHeartbeats 1000000 in
set_option maxRecDepth 100000 in
/-- level, at an opening bracket -/
theorem level_open {k : Nat} (f : Nat) (hk : kindAt E.l k = 1) (h : Rr E lv en b w nv nm (.ok k)) (top : Nat) (_htop : top ≤ 4398046511104)
    (hmade : ∀ w', Rr E lv en b w' nv nm (.ok (k + 1)) → Calls Tryd.prog 63 #[.pointer (some ⟨b, 0, none⟩)] w' (LevPost E lv en b w' nv nm top (madeM E f (k + 1)))) :
    Calls Tryd.prog 58 #[.pointer (some ⟨b, 0, none⟩)] w (LevPost E lv en b w nv nm top ((madeM E f (k + 1)).bind fun n k' => capM k n k')) := by
  have hlt := kindAt_lt (l := E.l) (k := k) (by omega)
  generalize madeM E f (k + 1) = r at hmade ⊢
  generalize hres : r.bind (fun n k' => capM k n k') = res
  have HRES := Lib.hid hres
  have HM := Lib.hid hmade
  clear hmade hres
  obtain ⟨c0, c1, c2, c3, c4, c5, c6, c7⟩ := h.at
  have HR := Lib.hid h
  have hfar := h.far
  rcases h.has.2 with ⟨rfl, h0⟩ | ⟨bt, o, c, rfl, hn, hbt, hcells⟩
  · omega
  unfold maxLen at hn
  have hne0 : ¬ bt = b := by simpa [Value.ownBlock] using hfar
  have hat := toksCells_at E.l k hlt
  have t0 := (hcells (k * 3) (by omega)).trans hat.1
  have t1 : w.cell? ⟨bt, o + k * 3 + 1, none⟩ = _ := (hcells (k * 3 + 1) (by omega)).trans hat.2.1
  have t2 : w.cell? ⟨bt, o + k * 3 + 2, none⟩ = _ := (hcells (k * 3 + 2) (by omega)).trans hat.2.2
  have hk4 : E.l[k].kind = 1 := by rw [← kindAt_eq hlt]; exact hk
  rw [hk4] at t0
  have t0 : w.cell? ⟨bt, o + k * 3, none⟩ = some (.int .i64 1) := t0
  generalize E.l[k].text = tx at t1
  clear hk
  have hd : decide (E.l.length ≤ k) = false := by simp; omega
  have hd2 : decide ((E.l.length : Int) ≤ (k : Int)) = false := by simp; omega
  have hbl := h.lt
  have HL := Lib.hid h.len
  have HLV := Lib.hid h.lev
  clear h hcells hat hfar
  generalize E.l[k].pos = ps at t2
  go_enter Tryd.func58, Tryd.ntmps58
  go_wp2_with fail
  go_quiet (fail)
  go_wp2_with fail
  have b0 := fresh3 (w := w) (t := 51) (nq + 1) (.int .i64 0) (.string ⟨#[]⟩) (.int .i64 0)
  obtain ⟨a0, a1, a2, g0, g1, g2⟩ := b0
  have o0 := fresh_old (w := w) (t := 51) (nq + 1) #[.int .i64 0, .string ⟨#[]⟩, .int .i64 0] (p := ⟨b, 0, none⟩) hbl
  have o1 := fresh_old (w := w) (t := 51) (nq + 1) #[.int .i64 0, .string ⟨#[]⟩, .int .i64 0] (p := ⟨b, 1, none⟩) hbl
  have q0 := fresh_old (w := w) (t := 51) (nq + 1) #[.int .i64 0, .string ⟨#[]⟩, .int .i64 0] (p := ⟨bt, o + k * 3, none⟩) hbt
  have q1 := fresh_old (w := w) (t := 51) (nq + 1) #[.int .i64 0, .string ⟨#[]⟩, .int .i64 0] (p := ⟨bt, o + k * 3 + 1, none⟩) hbt
  have q2 := fresh_old (w := w) (t := 51) (nq + 1) #[.int .i64 0, .string ⟨#[]⟩, .int .i64 0] (p := ⟨bt, o + k * 3 + 2, none⟩) hbt
  rw [c0] at o0
  rw [c1] at o1
  rw [t0] at q0
  rw [t1] at q1
  rw [t2] at q2
  go_region
  obtain ⟨W, hW, hbW, e0, e1, e2⟩ := fresh_laid w (nq + 1) (.int .i64 0) (.string ⟨#[]⟩) (.int .i64 0) (.int .i64 1) (.string ⟨tx.toArray⟩) (.int .i64 ps) 51
  rw [hW]
  have HRW := Lib.hid (HR.out.kept hbW)
  have htW : w.heap.size < W.heap.size := World.block_lt_of_cell? W ⟨w.heap.size, 0, none⟩ e0
  clear hW a0 a1 a2 g0 g1 g2 o0 o1 q0 q1 q2 c0 c1 c2 c3 c4 c5 c6 c7 t0 t1 t2
  obtain ⟨d0, d1, d2, d3, d4, d5, d6, d7⟩ := HRW.out.at
  have f1 := HRW.out.fz 1
  have hb3 := HRW.out.lt
  have hl := HL.out
  have hne : ¬ w.heap.size = b := by omega
  have hne' : ¬ b = w.heap.size := by omega
  have HR3 := Lib.hid (HRW.out.step (k + 1) hlt)
  go_wp2_with fail
  refine (HM.out _ HR3.out).mono ?_
  rintro e w4 ⟨n, rfl, ht4, hval, hn4⟩
  have HT4 := Lib.hid ht4
  have HG : Hid (w.grownBy w4 (some b)) := Lib.hid (grown_trans (grown_set (grown_below hbW) 1 _) ht4.2)
  clear hbW d0 d1 d2 d3 d4 d5 d6 d7 e0 e1 e2 f1
  cases r with
  | bad q =>
    have hrr := HT4.out.1
    simp only [RR.md] at hrr
    obtain ⟨kk', x', u0, u1, u2, u3, u4, u5, u6, u7, u8⟩ := hrr.at'
    simp only [Md.isBad] at u7
    clear ht4 hval u0 u1 u2 hrr
    go_wp2
    go_ret
    rw [← HRES.out]
    exact LevPost.of_bad ⟨HT4.out.1, HG.out⟩ hn4
  | ok a k' =>
    have hna := hval a k' rfl
    subst hna
    have hrr := HT4.out.1
    simp only [RR.md] at hrr
    obtain ⟨s0, s1, s2, s3, s4, s5, s6, s7⟩ := hrr.at
    have HRR := Lib.hid hrr
    clear ht4 hval hrr
    by_cases hc : 1000 < n
    · have hgt : decide ((1000 : Int) < (n : Int)) = true := by simp; omega
      have HC : Hid (res = .bad k) := Lib.hid (by rw [← HRES.out]; simp only [RR.bind_ok]; unfold capM; rw [if_pos hc])
      go_wp2_with fail
      refine (fail_ok k HRR.out).mono ?_
      rintro e w5 ⟨rfl, ht5⟩
      go_wp2
      go_ret
      rw [HC.out]
      exact LevPost.of_bad ⟨ht5.1, grown_trans HG.out ht5.2⟩ hn4
    · have hgt : decide ((1000 : Int) < (n : Int)) = false := by simp; omega
      have HC : Hid (res = .ok n k') := Lib.hid (by rw [← HRES.out]; simp only [RR.bind_ok]; unfold capM; rw [if_neg hc])
      go_wp2
      go_ret
      rw [HC.out]
      exact LevPost.of_ok ⟨HRR.out, HG.out⟩ hn4
set_option maxHeartbeats 1000000 in
set_option maxRecDepth 100000 in
/-- made, at neither word -/
theorem made_else {k : Nat} (hs : kindAt E.l k = 3 → textAt E.l k ≠ wSuc) (hm : kindAt E.l k = 3 → textAt E.l k ≠ wMax) (h : Rr E lv en b w nv nm (.ok k)) (top : Nat) :
    Calls Tryd.prog 63 #[.pointer (some ⟨b, 0, none⟩)] w (LevPost E lv en b w nv nm top (.bad k)) := by
  by_cases hlt : k < E.l.length
  · obtain ⟨c0, c1, c2, c3, c4, c5, c6, c7⟩ := h.at
    have HR := Lib.hid h
    have hfar := h.far
    rcases h.has.2 with ⟨rfl, h0⟩ | ⟨bt, o, c, rfl, hn, hbt, hcells⟩
    · omega
    unfold maxLen at hn
    have hat := toksCells_at E.l k hlt
    have t0 := (hcells (k * 3) (by omega)).trans hat.1
    have t1 : w.cell? ⟨bt, o + k * 3 + 1, none⟩ = _ := (hcells (k * 3 + 1) (by omega)).trans hat.2.1
    have hk4 : kindAt E.l k = E.l[k].kind := kindAt_eq hlt
    have hx4 : textAt E.l k = E.l[k].text := textAt_eq hlt
    rw [hk4] at hs hm
    rw [hx4] at hs hm
    generalize E.l[k].kind = kk at t0 hs hm
    generalize E.l[k].text = tx at t1 hs hm
    have k3 : (((kk : Int) == 3) = true ∧ (tx == [115, 117, 99]) = false ∧ (tx == [109, 97, 120]) = false) ∨ ((kk : Int) == 3) = false := by
      by_cases h3 : kk = 3
      · exact .inl ⟨by simp [h3], by simpa [wSuc] using hs h3, by simpa [wMax] using hm h3⟩
      · exact .inr (by simp; omega)
    have hd : decide (k < E.l.length) = true := by simp; omega
    have hd2 : decide ((k : Int) < (E.l.length : Int)) = true := by simp; omega
    clear hk4 hx4 hs hm h hcells hat hfar
    rcases k3 with ⟨k3, x1, x2⟩ | k3
    all_goals
      go_enter Tryd.func63, Tryd.ntmps63
      go_wp2_with fail
      go_quiet (fail)
      revert nq
      intro n1
      go_wp2_with fail
      go_quiet (fail)
      obtain ⟨d0, d1, d2, d3, d4, d5, d6, d7⟩ := (HR.out.drewN (n1 + nq)).at
      go_wp2_with fail
      refine (fail_ok k (HR.out.drewN (n1 + nq))).mono ?_
      rintro e w4 ⟨rfl, ht4⟩
      go_wp2_with fail
      refine (next_bad 2 ht4.1).mono ?_
      rintro e w5 ⟨rfl, ht5⟩
      go_wp2
      go_ret
      exact LevPost.of_bad (n := 0) ⟨ht5.1, grown_trans (grown_trans (grown_drewN (grown_refl _ _) _) ht4.2) ht5.2⟩ (Nat.zero_le _)
  · obtain ⟨c0, c1, c2, c3, c4, c5, c6, c7⟩ := h.at
    have HR := Lib.hid h
    obtain ⟨a, o, rfl⟩ : ∃ a c, lv = .slice a E.l.length c := by
      rcases h.has.2 with ⟨rfl, h0⟩ | ⟨bt, o, c, rfl, hn, hbt, hcells⟩
      · exact ⟨none, 0, by rw [h0]⟩
      · exact ⟨_, _, rfl⟩
    have hd : decide (k < E.l.length) = false := by simp; omega
    have hd2 : decide ((k : Int) < (E.l.length : Int)) = false := by simp; omega
    clear h hs hm
    go_enter Tryd.func63, Tryd.ntmps63
    go_wp2_with fail
    go_quiet (fail)
    revert nq
    intro n1
    go_wp2_with fail
    go_quiet (fail)
    obtain ⟨d0, d1, d2, d3, d4, d5, d6, d7⟩ := (HR.out.drewN (n1 + nq)).at
    go_wp2_with fail
    refine (fail_ok k (HR.out.drewN (n1 + nq))).mono ?_
    rintro e w4 ⟨rfl, ht4⟩
    go_wp2_with fail
    refine (next_bad 2 ht4.1).mono ?_
    rintro e w5 ⟨rfl, ht5⟩
    go_wp2
    go_ret
    exact LevPost.of_bad (n := 0) ⟨ht5.1, grown_trans (grown_trans (grown_drewN (grown_refl _ _) _) ht4.2) ht5.2⟩ (Nat.zero_le _)

set_option maxHeartbeats 1000000 in
set_option maxRecDepth 100000 in
/-- made, at suc -/
theorem made_suc {k : Nat} (f : Nat) (ih : LevelC E lv en b f) (hf : E.l.length < k + 1 + f) (hf2 : f + 1 ≤ 2199023255552) (hk : kindAt E.l k = 3) (hx : textAt E.l k = wSuc) (h : Rr E lv en b w nv nm (.ok k)) :
    Calls Tryd.prog 63 #[.pointer (some ⟨b, 0, none⟩)] w (LevPost E lv en b w nv nm (1000000 + (f + 1)) ((levelM E f (k + 1)).bind fun n k' => clM E (n + 1) k')) := by
  have hlt := kindAt_lt (l := E.l) (k := k) (by omega)
  generalize hr : levelM E f (k + 1) = r
  generalize hres : r.bind (fun n k' => clM E (n + 1) k') = res
  have HRES := Lib.hid hres
  have HRR0 := Lib.hid hr
  have IH := Lib.hid ih
  clear hres hr ih
  obtain ⟨c0, c1, c2, c3, c4, c5, c6, c7⟩ := h.at
  have HR := Lib.hid h
  have hfar := h.far
  rcases h.has.2 with ⟨rfl, h0⟩ | ⟨bt, o, c, rfl, hn, hbt, hcells⟩
  · omega
  unfold maxLen at hn
  have hne0 : ¬ bt = b := by simpa [Value.ownBlock] using hfar
  have hat := toksCells_at E.l k hlt
  have t0 := (hcells (k * 3) (by omega)).trans hat.1
  have t1 : w.cell? ⟨bt, o + k * 3 + 1, none⟩ = _ := (hcells (k * 3 + 1) (by omega)).trans hat.2.1
  have hk4 : E.l[k].kind = 3 := by rw [← kindAt_eq hlt]; exact hk
  have hx4 : E.l[k].text = [115, 117, 99] := by rw [← textAt_eq hlt]; exact hx
  rw [hk4] at t0
  rw [hx4] at t1
  have t0 : w.cell? ⟨bt, o + k * 3, none⟩ = some (.int .i64 3) := t0
  have t1 : w.cell? ⟨bt, o + k * 3 + 1, none⟩ = some (.string ⟨#[115, 117, 99]⟩) := t1
  clear hk hx
  have hd : decide (k < E.l.length) = true := by simp; omega
  have hd2 : decide ((k : Int) < (E.l.length : Int)) = true := by simp; omega
  have hbl := h.lt
  have f1 := h.fz 1
  have HL := Lib.hid h.len
  have hl := HL.out
  clear h hcells hat hfar
  go_enter Tryd.func63, Tryd.ntmps63
  go_wp2_with fail
  go_quiet (fail)
  have HRq := Lib.hid (HR.out.drewN nq)
  have HR3 := Lib.hid (HRq.out.step (k + 1) hlt)
  go_wp2_with fail
  refine (IH.out nv nm (k + 1) _ HR3.out (by omega) (by omega)).mono ?_
  rintro e w4 ⟨n, rfl, ht4, hval, hn4⟩
  rw [HRR0.out] at ht4 hval
  have HT4 := Lib.hid ht4
  have HG : Hid (w.grownBy w4 (some b)) := Lib.hid (grown_trans (grown_set (grown_drewN (grown_refl _ _) nq) 1 _) ht4.2)
  clear c0 c1 c2 c3 c4 c5 c6 c7 f1
  cases r with
  | bad q =>
    clear ht4 hval
    go_wp2_with fail
    refine (next_bad 2 HT4.out.1).mono ?_
    rintro e w5 ⟨rfl, ht5⟩
    go_wp2
    go_ret
    rw [← HRES.out]
    exact LevPost.of_bad (n := n + 1) ⟨ht5.1, grown_trans HG.out ht5.2⟩ (by omega)
  | ok a k2 =>
    have hna := hval a k2 rfl
    subst hna
    have HRR : Hid (Rr E _ en b w4 nv nm (.ok k2)) := Lib.hid HT4.out.1
    clear ht4 hval
    go_wp2_with fail
    by_cases hk2 : kindAt E.l k2 = 2
    · have HC : Hid (res = .ok (n + 1) (k2 + 1)) := Lib.hid (by rw [← HRES.out]; (try simp only [RR.bind_ok]); unfold clM; rw [if_pos hk2])
      refine (next_ok 2 (by decide) hk2 HRR.out).mono ?_
      rintro e w5 ⟨rfl, ht5⟩
      go_wp2
      go_ret
      rw [HC.out]
      exact LevPost.of_ok (n := (n + 1)) ⟨ht5.1, grown_trans HG.out ht5.2⟩ (by omega)
    · have HC : Hid (res = .bad k2) := Lib.hid (by rw [← HRES.out]; (try simp only [RR.bind_ok]); unfold clM; rw [if_neg hk2])
      refine (next_miss 2 (by decide) hk2 HRR.out).mono ?_
      rintro e w5 ⟨rfl, ht5⟩
      go_wp2
      go_ret
      rw [HC.out]
      exact LevPost.of_bad (n := (n + 1)) ⟨ht5.1, grown_trans HG.out ht5.2⟩ (by omega)

set_option maxHeartbeats 1000000 in
set_option maxRecDepth 100000 in
/-- made, at max -/
theorem made_max {k : Nat} (f : Nat) (ih : LevelC E lv en b f) (hf : E.l.length < k + 1 + f) (hf2 : f + 1 ≤ 2199023255552) (hk : kindAt E.l k = 3) (hx : textAt E.l k = wMax) (h : Rr E lv en b w nv nm (.ok k)) :
    Calls Tryd.prog 63 #[.pointer (some ⟨b, 0, none⟩)] w (LevPost E lv en b w nv nm (1000000 + (f + 1)) ((levelM E f (k + 1)).bind fun n k' => (levelM E f k').bind fun m k'' => clM E (max n m) k'')) := by
  have hlt := kindAt_lt (l := E.l) (k := k) (by omega)
  have HMV := Lib.hid (levelM_moves E f (k + 1) hlt)
  generalize hr : levelM E f (k + 1) = r at HMV
  generalize hres : r.bind (fun n k' => (levelM E f k').bind fun m k'' => clM E (max n m) k'') = res
  have HRES := Lib.hid hres
  have HRR0 := Lib.hid hr
  have IH := Lib.hid ih
  clear hres hr ih
  obtain ⟨c0, c1, c2, c3, c4, c5, c6, c7⟩ := h.at
  have HR := Lib.hid h
  have hfar := h.far
  rcases h.has.2 with ⟨rfl, h0⟩ | ⟨bt, o, c, rfl, hn, hbt, hcells⟩
  · omega
  unfold maxLen at hn
  have hne0 : ¬ bt = b := by simpa [Value.ownBlock] using hfar
  have hat := toksCells_at E.l k hlt
  have t0 := (hcells (k * 3) (by omega)).trans hat.1
  have t1 : w.cell? ⟨bt, o + k * 3 + 1, none⟩ = _ := (hcells (k * 3 + 1) (by omega)).trans hat.2.1
  have hk4 : E.l[k].kind = 3 := by rw [← kindAt_eq hlt]; exact hk
  have hx4 : E.l[k].text = [109, 97, 120] := by rw [← textAt_eq hlt]; exact hx
  rw [hk4] at t0
  rw [hx4] at t1
  have t0 : w.cell? ⟨bt, o + k * 3, none⟩ = some (.int .i64 3) := t0
  have t1 : w.cell? ⟨bt, o + k * 3 + 1, none⟩ = some (.string ⟨#[109, 97, 120]⟩) := t1
  clear hk hx
  have hd : decide (k < E.l.length) = true := by simp; omega
  have hd2 : decide ((k : Int) < (E.l.length : Int)) = true := by simp; omega
  have hbl := h.lt
  have f1 := h.fz 1
  have HL := Lib.hid h.len
  have hl := HL.out
  clear h hcells hat hfar
  go_enter Tryd.func63, Tryd.ntmps63
  go_wp2_with fail
  go_quiet (fail)
  revert nq
  intro n1
  go_wp2_with fail
  go_quiet (fail)
  have HRq := Lib.hid (HR.out.drewN (n1 + nq))
  have HR3 := Lib.hid (HRq.out.step (k + 1) hlt)
  go_wp2_with fail
  refine (IH.out nv nm (k + 1) _ HR3.out (by omega) (by omega)).mono ?_
  rintro e w4 ⟨n, rfl, ht4, hval, hn4⟩
  rw [HRR0.out] at ht4 hval
  have HT4 := Lib.hid ht4
  have HG : Hid (w.grownBy w4 (some b)) := Lib.hid (grown_trans (grown_set (grown_drewN (grown_refl _ _) (n1 + nq)) 1 _) ht4.2)
  clear c0 c1 c2 c3 c4 c5 c6 c7 f1
  cases r with
  | bad q =>
    clear ht4 hval
    go_wp2_with fail
    refine (level_bad HT4.out.1).mono ?_
    rintro e w6 ⟨rfl, ht6⟩
    go_wp2_with fail
    refine (next_bad 2 ht6.1).mono ?_
    rintro e w5 ⟨rfl, ht5⟩
    have hmx : max (n : Int) 0 = (n : Int) := by omega
    go_wp2
    go_ret
    rw [← HRES.out]
    exact LevPost.of_bad (n := n) ⟨ht5.1, grown_trans (grown_trans HG.out ht6.2) ht5.2⟩ (by omega)
  | ok a k1 =>
    have hna := hval a k1 rfl
    subst hna
    have hmv := HMV.out
    simp only [Moves] at hmv
    clear ht4 hval
    have HRES2 : Hid ((levelM E f k1).bind (fun m k'' => clM E (max n m) k'') = res) := Lib.hid HRES.out
    generalize hr2 : levelM E f k1 = r2 at HRES2
    have HR2 := Lib.hid hr2
    clear hr2
    go_wp2_with fail
    refine (IH.out nv nm k1 _ HT4.out.1 (by omega) (by omega)).mono ?_
    rintro e w6 ⟨m, rfl, ht6, hval, hn6⟩
    rw [HR2.out] at ht6 hval
    have HT6 := Lib.hid ht6
    have HG6 : Hid (w.grownBy w6 (some b)) := Lib.hid (grown_trans HG.out ht6.2)
    have hmx : max (n : Int) (m : Int) = ((max n m : Nat) : Int) := by omega
    have hmn : max n m ≤ 1000000 + f := by omega
    cases r2 with
    | bad q =>
      generalize max n m = x at hmx hmn
      clear ht6 hval
      go_wp2_with fail
      refine (next_bad 2 HT6.out.1).mono ?_
      rintro e w5 ⟨rfl, ht5⟩
      go_wp2
      go_ret
      rw [← HRES2.out]
      exact LevPost.of_bad (n := x) ⟨ht5.1, grown_trans HG6.out ht5.2⟩ (by omega)
    | ok a2 k2 =>
      have hna := hval a2 k2 rfl
      subst hna
      have HRES : Hid (clM E (max n m) k2 = res) := Lib.hid HRES2.out
      generalize max n m = x at hmx hmn HRES
      have HRR : Hid (Rr E _ en b w6 nv nm (.ok k2)) := Lib.hid HT6.out.1
      clear ht6 hval
      go_wp2_with fail
      by_cases hk2 : kindAt E.l k2 = 2
      · have HC : Hid (res = .ok x (k2 + 1)) := Lib.hid (by rw [← HRES.out]; (try simp only [RR.bind_ok]); unfold clM; rw [if_pos hk2])
        refine (next_ok 2 (by decide) hk2 HRR.out).mono ?_
        rintro e w5 ⟨rfl, ht5⟩
        go_wp2
        go_ret
        rw [HC.out]
        exact LevPost.of_ok (n := x) ⟨ht5.1, grown_trans HG6.out ht5.2⟩ (by omega)
      · have HC : Hid (res = .bad k2) := Lib.hid (by rw [← HRES.out]; (try simp only [RR.bind_ok]); unfold clM; rw [if_neg hk2])
        refine (next_miss 2 (by decide) hk2 HRR.out).mono ?_
        rintro e w5 ⟨rfl, ht5⟩
        go_wp2
        go_ret
        rw [HC.out]
        exact LevPost.of_bad (n := x) ⟨ht5.1, grown_trans HG6.out ht5.2⟩ (by omega)

end

theorem lvl_any {E : REnv} {lv : Value} {en : Int} {b : Nat} : ∀ f, LevelC E lv en b f
  | 0 => fun nv nm k w h hf _ => absurd hf (by have := h.le; omega)
  | f + 1 => fun nv nm k w h hf hf2 => by
    have ih := lvl_any (E := E) (lv := lv) (en := en) (b := b) f
    by_cases hlt : k < E.l.length
    · by_cases h4 : kindAt E.l k = 4
      · rw [levelM, if_pos h4]; exact level_num h4 h _ (by omega)
      by_cases hi : kindAt E.l k = 3 ∧ textAt E.l k = wI
      · rw [levelM, if_neg h4, if_pos hi]; exact level_i hi.1 hi.2 h _ (by omega)
      by_cases hj : kindAt E.l k = 3 ∧ textAt E.l k = wJ
      · rw [levelM, if_neg h4, if_neg hi, if_pos hj]; exact level_j hj.1 hj.2 h _ (by omega)
      by_cases h1 : kindAt E.l k = 1
      · rw [levelM_open f k h1]
        refine level_open f h1 h _ (by omega) fun w' h' => ?_
        unfold madeM
        by_cases hs : kindAt E.l (k + 1) = 3 ∧ textAt E.l (k + 1) = wSuc
        · rw [if_pos hs]
          exact made_suc f ih (by omega) (by omega) hs.1 hs.2 h'
        · rw [if_neg hs]
          by_cases hm : kindAt E.l (k + 1) = 3 ∧ textAt E.l (k + 1) = wMax
          · rw [if_pos hm]
            exact made_max f ih (by omega) (by omega) hm.1 hm.2 h'
          · rw [if_neg hm]
            exact made_else (fun h x => hs ⟨h, x⟩) (fun h x => hm ⟨h, x⟩) h' _
      · rw [levelM_else f k h4 h1 (fun h x => hi ⟨h, x⟩) (fun h x => hj ⟨h, x⟩)]
        exact level_else hlt h4 h1 (fun h x => hi ⟨h, x⟩) (fun h x => hj ⟨h, x⟩) h _
    · have h0 := kindAt_ge (l := E.l) (k := k) (by omega)
      rw [levelM_else f k (by omega) (by omega) (by omega) (by omega)]
      refine (level_end (by omega) h).mono ?_
      rintro e w' ⟨rfl, ht⟩
      exact LevPost.of_bad (n := 0) ht (by omega)

section
variable {E : REnv} {lv : Value} {en : Int} {b : Nat} {w : World} {nv : Value} {nm : List (List UInt8)}
/-- level, in either mode -/
theorem lev_m {m : Md} (h : Rr E lv en b w nv nm m) : Calls Tryd.prog 58 #[.pointer (some ⟨b, 0, none⟩)] w (LevPost E lv en b w nv nm 1100000000000 (m.go (levM E))) := by
  cases m with
  | bad q =>
    refine (level_bad h).mono ?_
    rintro e w' ⟨rfl, ht⟩
    exact LevPost.of_bad (n := 0) ht (by omega)
  | ok k =>
    have hl := h.len
    refine (lvl_any (E.l.length + 1) nv nm k w h (by omega) (by omega)).mono ?_
    rintro e w' ⟨n, he, ht, hv, hn⟩
    exact ⟨n, he, ht, hv, by omega⟩
end
end Go.Proofs.YtfklmcmoackepaaDoor
