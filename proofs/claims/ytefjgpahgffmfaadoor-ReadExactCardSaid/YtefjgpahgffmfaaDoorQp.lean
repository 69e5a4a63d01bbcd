/- The page's reader (transhipref09): its block; walks of Kind, Word, Fail, Want. -/
import Derived.Test.YtefjgpahgffmfaaDoorQr
import Derived.Test.YtefjgpahgffmfaaDoorRefLex
namespace Go.Proofs.YtefjgpahgffmfaaDoor
open Go.RowKit

def rqCells (lv : Value) (k bad : Int) (i j : Int) (nv : Value) : Array Value := #[lv, .int .i64 k, .int .i64 bad, .int .i64 i, .int .i64 j, nv]
def MdQ (E : REnv) (kk bad : Int) : Md → Prop
  | .ok k => kk = k ∧ k ≤ E.l.length ∧ bad = -1
  | .bad q => bad = q ∧ 0 ≤ kk ∧ kk ≤ E.l.length
def CapOK (v : Value) (n : Nat) : Prop := ∃ a c, v = .slice a n c ∧ n ≤ c
theorem capOK_own {w : World} {base size n : Nat} {e : TypeId} {v : Value} {xs : List Value} (h : w.ownsRow base e size v n xs) : CapOK v n := by
  rcases h.2 with ⟨rfl, rfl⟩ | ⟨g, c, u, rfl, _, _, hn, _⟩
  · exact ⟨none, 0, rfl, Nat.le_refl _⟩
  · exact ⟨_, _, rfl, hn⟩
/-- the page's reader in block b -/
structure Rq (E : REnv) (lv : Value) (b : Nat) (w : World) (nv : Value) (nm : List (List UInt8)) (m : Md) : Prop where
  cells : ∃ kk bad, w.heap[b]? = some (.cells (rqCells lv kk bad E.i E.j nv) 70 (0, 0)) ∧ MdQ E kk bad m
  hasN : Has w 1 nv nm.length (textRow nm)
  farN : nv.ownBlock ≠ some b
  cap : CapOK nv nm.length
  has : Has w 3 lv E.l.length (toksCells E.l)
  far : lv.ownBlock ≠ some b
  short : ∀ k, (textAt E.l k).length ≤ 1099511627776
  len : E.l.length ≤ 1099511627776
  lev : E.i ≤ 1000 ∧ E.j ≤ 1000
  names : nm.length ≤ 8796093022208

section
variable {E : REnv} {lv : Value} {b : Nat} {w w' : World} {nv : Value} {nm : List (List UInt8)} {m m' : Md}
theorem Rq.lt (h : Rq E lv b w nv nm m) : b < w.heap.size := by obtain ⟨kk, bad, hc, _⟩ := h.cells; exact (Array.getElem?_eq_some_iff.1 hc).1
theorem Rq.fz (h : Rq E lv b w nv nm m) (j : Nat) : w.frozen? ⟨b, j, none⟩ = false := by obtain ⟨kk, bad, hc, _⟩ := h.cells; simp [World.frozen?, hc]
theorem Rq.kept (h : Rq E lv b w nv nm m) (hb : Below w.heap.size w w') : Rq E lv b w' nv nm m := by
  obtain ⟨kk, bad, hc, hm⟩ := h.cells
  exact { h with cells := ⟨kk, bad, by rw [hb.block b h.lt]; exact hc, hm⟩, hasN := h.hasN.grown (grown_below hb) h.farN, has := h.has.grown (grown_below hb) h.far }
theorem Rq.drewN (h : Rq E lv b w nv nm m) (n : Nat) : Rq E lv b (w.drewN n) nv nm m := by
  obtain ⟨kk, bad, hc, hm⟩ := h.cells
  exact { h with cells := ⟨kk, bad, hc, hm⟩, hasN := h.hasN.grown (grown_drewN (grown_refl _ (some b)) n) h.farN, has := h.has.grown (grown_drewN (grown_refl _ (some b)) n) h.far }
theorem Rq.at {k : Nat} (h : Rq E lv b w nv nm (.ok k)) : w.heap[b]? = some (.cells (rqCells lv k (-1) E.i E.j nv) 70 (0, 0)) ∧
    w.cell? ⟨b, 0, none⟩ = some lv ∧ w.cell? ⟨b, 1, none⟩ = some (.int .i64 k) ∧ w.cell? ⟨b, 2, none⟩ = some (.int .i64 (-1)) ∧ w.cell? ⟨b, 3, none⟩ = some (.int .i64 E.i) ∧ w.cell? ⟨b, 4, none⟩ = some (.int .i64 E.j) ∧ w.cell? ⟨b, 5, none⟩ = some nv := by
  obtain ⟨kk, bad, hc, ⟨rfl, _, rfl⟩⟩ := h.cells
  have hq : ∀ j : Nat, w.cell? ⟨b, j, none⟩ = (rqCells lv k (-1) E.i E.j nv)[j]? := fun j => by simp [World.cell?, hc]
  exact ⟨hc, hq 0, hq 1, hq 2, hq 3, hq 4, hq 5⟩
theorem Rq.le {k : Nat} (h : Rq E lv b w nv nm (.ok k)) : k ≤ E.l.length := by obtain ⟨kk, bad, hc, ⟨_, h1, _⟩⟩ := h.cells; exact h1
theorem Rq.at' {q : Nat} (h : Rq E lv b w nv nm (.bad q)) : ∃ kk, 0 ≤ kk ∧ kk ≤ 1099511627776 ∧ w.heap[b]? = some (.cells (rqCells lv kk q E.i E.j nv) 70 (0, 0)) ∧
    w.cell? ⟨b, 0, none⟩ = some lv ∧ w.cell? ⟨b, 1, none⟩ = some (.int .i64 kk) ∧ w.cell? ⟨b, 2, none⟩ = some (.int .i64 q) ∧ w.cell? ⟨b, 5, none⟩ = some nv := by
  obtain ⟨kk, bad, hc, ⟨rfl, h0, h1⟩⟩ := h.cells
  have hl := h.len
  have hq : ∀ j : Nat, w.cell? ⟨b, j, none⟩ = (rqCells lv kk q E.i E.j nv)[j]? := fun j => by simp [World.cell?, hc]
  exact ⟨kk, h0, by omega, hc, hq 0, hq 1, hq 2, hq 5⟩
theorem Rq.cell5 (h : Rq E lv b w nv nm m) : w.cell? ⟨b, 5, none⟩ = some nv := by
  obtain ⟨kk, bad, hc, _⟩ := h.cells
  simp [World.cell?, hc, rqCells]
theorem Rq.laid (h : Rq E lv b w nv nm m) (g : w.grownBy w' (some b)) {kk bad : Int} {nv' : Value} {nm' : List (List UInt8)} (hc : w'.heap[b]? = some (.cells (rqCells lv kk bad E.i E.j nv') 70 (0, 0))) (hm : MdQ E kk bad m') (hN : Has w' 1 nv' nm'.length (textRow nm')) (hf : nv'.ownBlock ≠ some b) (hcap : CapOK nv' nm'.length) (hl : nm'.length ≤ 8796093022208) : Rq E lv b w' nv' nm' m' :=
  { h with cells := ⟨kk, bad, hc, hm⟩, hasN := hN, farN := hf, cap := hcap, has := h.has.grown g h.far, names := hl }
theorem Rq.step {k : Nat} (h : Rq E lv b w nv nm (.ok k)) (k' : Nat) (hk : k' ≤ E.l.length) : Rq E lv b (w.setCell ⟨b, 1, none⟩ (.int .i64 k')) nv nm (.ok k') := by
  obtain ⟨hc, _⟩ := h.at
  have g : w.grownBy (w.setCell ⟨b, 1, none⟩ (.int .i64 k')) (some b) := grown_set (grown_refl _ _) 1 _
  exact h.laid g (kk := k') (bad := -1) (nv' := nv) (set1_at hc 1 _) ⟨rfl, hk, rfl⟩ (h.hasN.grown g h.farN) h.farN h.cap h.names
theorem Rq.failed {k : Nat} (h : Rq E lv b w nv nm (.ok k)) (x : Nat) : Rq E lv b (w.setCell ⟨b, 2, none⟩ (.int .i64 x)) nv nm (.bad x) := by
  have hle := h.le
  obtain ⟨hc, _⟩ := h.at
  have g : w.grownBy (w.setCell ⟨b, 2, none⟩ (.int .i64 x)) (some b) := grown_set (grown_refl _ _) 2 _
  exact h.laid g (kk := k) (bad := x) (nv' := nv) (set1_at hc 2 _) ⟨rfl, by omega, by omega⟩ (h.hasN.grown g h.farN) h.farN h.cap h.names
end

/-- the reader alone turns; its names stay -/
def TurnQ (E : REnv) (lv : Value) (b : Nat) (w : World) (nv : Value) (nm : List (List UInt8)) (m : Md) (w' : World) : Prop := Rq E lv b w' nv nm m ∧ w.grownBy w' (some b)

section
variable {E : REnv} {lv : Value} {b : Nat} {w : World} {nv : Value} {nm : List (List UInt8)}

set_option maxHeartbeats 1000000 in
set_option maxRecDepth 100000 in
theorem qkind {k : Nat} (h : Rq E lv b w nv nm (.ok k)) :
    Calls Tryd.prog 72 #[.pointer (some ⟨b, 0, none⟩)] w fun e w' => e = .returned (.int .i64 (kindAt E.l k : Nat)) ∧ ∃ m, w' = w.drewN m := by
  obtain ⟨_, c0, c1, c2, c3, c4, c5⟩ := h.at
  rcases h.has.2 with ⟨rfl, h0⟩ | ⟨bt, o, c, rfl, hn, hb, hcells⟩
  · have HV : Hid (kindAt E.l k = 0) := Lib.hid (kindAt_ge (by omega))
    have hlt : ¬ (k : Int) < ((0 : Nat) : Int) := by omega
    have hlt2 : decide ((k : Int) < 0) = false := by simp
    clear h h0
    go_enter Tryd.func72, Tryd.ntmps72
    go_wp2
    go_quiet (fail)
    go_wp2
    go_ret
    exact ⟨by rw [HV.out]; rfl, _, rfl⟩
  · unfold maxLen at hn
    by_cases hlt : k < E.l.length
    · have hat := toksCells_at E.l k hlt
      have t0 : w.cell? ⟨bt, o + k * 3, none⟩ = _ := (hcells (k * 3) (by omega)).trans hat.1
      have HV : Hid (kindAt E.l k = E.l[k].kind) := Lib.hid (kindAt_eq hlt)
      have hd : decide (k < E.l.length) = true := by simp [hlt]
      clear h hcells hat
      generalize E.l[k].kind = kk at t0 HV
      go_enter Tryd.func72, Tryd.ntmps72
      go_wp2
      go_quiet (fail)
      revert nq
      intro n1
      go_wp2
      go_quiet (fail)
      go_wp2
      go_ret
      exact ⟨by rw [HV.out]; rfl, n1 + nq, by simp⟩
    · have HV : Hid (kindAt E.l k = 0) := Lib.hid (kindAt_ge (by omega))
      have hd : decide (k < E.l.length) = false := by simp; omega
      clear h hcells
      go_enter Tryd.func72, Tryd.ntmps72
      go_wp2
      go_quiet (fail)
      go_wp2
      go_ret
      exact ⟨by rw [HV.out]; rfl, _, rfl⟩

set_option maxHeartbeats 1000000 in
set_option maxRecDepth 100000 in
theorem qword {k : Nat} (h : Rq E lv b w nv nm (.ok k)) :
    Calls Tryd.prog 73 #[.pointer (some ⟨b, 0, none⟩)] w fun e w' => e = .returned (.string ⟨(textAt E.l k).toArray⟩) ∧ ∃ m, w' = w.drewN m := by
  obtain ⟨_, c0, c1, c2, c3, c4, c5⟩ := h.at
  rcases h.has.2 with ⟨rfl, h0⟩ | ⟨bt, o, c, rfl, hn, hb, hcells⟩
  · have HV : Hid (textAt E.l k = []) := Lib.hid (textAt_ge (by omega))
    have hlt : ¬ (k : Int) < ((0 : Nat) : Int) := by omega
    have hlt2 : decide ((k : Int) < 0) = false := by simp
    clear h h0
    go_enter Tryd.func73, Tryd.ntmps73
    go_wp2
    go_quiet (fail)
    go_wp2
    go_ret
    exact ⟨by rw [HV.out]; rfl, _, rfl⟩
  · unfold maxLen at hn
    by_cases hlt : k < E.l.length
    · have hat := toksCells_at E.l k hlt
      have t0 : w.cell? ⟨bt, o + k * 3 + 1, none⟩ = _ := (hcells (k * 3 + 1) (by omega)).trans hat.2.1
      have HV : Hid (textAt E.l k = E.l[k].text) := Lib.hid (textAt_eq hlt)
      have hd : decide (k < E.l.length) = true := by simp [hlt]
      clear h hcells hat
      generalize E.l[k].text = kk at t0 HV
      go_enter Tryd.func73, Tryd.ntmps73
      go_wp2
      go_quiet (fail)
      revert nq
      intro n1
      go_wp2
      go_quiet (fail)
      go_wp2
      go_ret
      exact ⟨by rw [HV.out]; rfl, n1 + nq, by simp⟩
    · have HV : Hid (textAt E.l k = []) := Lib.hid (textAt_ge (by omega))
      have hd : decide (k < E.l.length) = false := by simp; omega
      clear h hcells
      go_enter Tryd.func73, Tryd.ntmps73
      go_wp2
      go_quiet (fail)
      go_wp2
      go_ret
      exact ⟨by rw [HV.out]; rfl, _, rfl⟩

set_option maxHeartbeats 1000000 in
set_option maxRecDepth 100000 in
theorem qfail_ok (x : Nat) {k : Nat} (h : Rq E lv b w nv nm (.ok k)) :
    Calls Tryd.prog 74 #[.pointer (some ⟨b, 0, none⟩), .int .i64 x] w fun e w' => e = .returned (.tuple #[]) ∧ TurnQ E lv b w nv nm (.bad x) w' := by
  obtain ⟨_, c0, c1, c2, c3, c4, c5⟩ := h.at
  have f2 := h.fz 2
  have hb := h.lt
  have HR := Lib.hid h
  clear h
  go_enter Tryd.func74, Tryd.ntmps74
  go_wp2
  exact post_end0 rfl rfl ⟨rfl, HR.out.failed x, grown_set (grown_refl _ _) 2 _⟩

set_option maxHeartbeats 1000000 in
set_option maxRecDepth 100000 in
theorem qfail_bad (x : Int) {q : Nat} (h : Rq E lv b w nv nm (.bad q)) :
    Calls Tryd.prog 74 #[.pointer (some ⟨b, 0, none⟩), .int .i64 x] w fun e w' => e = .returned (.tuple #[]) ∧ w' = w := by
  obtain ⟨kk, h0, h1, _, c0, c1, c2, c5⟩ := h.at'
  have hq : ¬ ((q : Int) < 0) := by omega
  clear h h0 h1
  go_enter Tryd.func74, Tryd.ntmps74
  go_wp2
  exact post_end0 rfl rfl ⟨rfl, rfl⟩

set_option maxHeartbeats 1000000 in
set_option maxRecDepth 100000 in
theorem qwant_bad (kind : Int) {q : Nat} (h : Rq E lv b w nv nm (.bad q)) :
    Calls Tryd.prog 75 #[.pointer (some ⟨b, 0, none⟩), .int .i64 kind] w fun e w' => e = .returned (.string ⟨#[]⟩) ∧ TurnQ E lv b w nv nm (.bad q) w' := by
  obtain ⟨kk, h0, h1, _, c0, c1, c2, c5⟩ := h.at'
  have HR := Lib.hid h
  have hq : (0 : Int) ≤ (q : Int) := by omega
  clear h h0 h1
  go_enter Tryd.func75, Tryd.ntmps75
  go_wp2
  go_ret
  exact ⟨rfl, HR.out, grown_refl _ _⟩

set_option maxHeartbeats 1000000 in
set_option maxRecDepth 100000 in
theorem qwant_miss (kind : Nat) {k : Nat} (hk : kindAt E.l k ≠ kind) (h : Rq E lv b w nv nm (.ok k)) :
    Calls Tryd.prog 75 #[.pointer (some ⟨b, 0, none⟩), .int .i64 kind] w fun e w' => e = .returned (.string ⟨#[]⟩) ∧ TurnQ E lv b w nv nm (.bad k) w' := by
  have HV : Hid (((kindAt E.l k : Int) != (kind : Int)) = true) := Lib.hid (by simp; omega)
  have HR := Lib.hid h
  obtain ⟨_, c0, c1, c2, c3, c4, c5⟩ := h.at
  clear h hk
  go_enter Tryd.func75, Tryd.ntmps75
  go_wp2_with fail
  refine (qkind HR.out).mono ?_
  rintro e w1 ⟨rfl, m, rfl⟩
  have hv := HV.out
  obtain ⟨_, d0, d1, d2, d3, d4, d5⟩ := (HR.out.drewN m).at
  go_wp2_with fail
  refine (qfail_ok k (HR.out.drewN m)).mono ?_
  rintro e w2 ⟨rfl, ht⟩
  go_wp2
  go_ret
  exact ⟨rfl, ht.1, grown_trans (grown_drewN (grown_refl _ _) _) ht.2⟩

set_option maxHeartbeats 1000000 in
set_option maxRecDepth 100000 in
theorem qwant_ok (kind : Nat) (hk0 : kind ≠ 0) {k : Nat} (hk : kindAt E.l k = kind) (h : Rq E lv b w nv nm (.ok k)) :
    Calls Tryd.prog 75 #[.pointer (some ⟨b, 0, none⟩), .int .i64 kind] w fun e w' => e = .returned (.string ⟨(textAt E.l k).toArray⟩) ∧ TurnQ E lv b w nv nm (.ok (k + 1)) w' := by
  have HV : Hid (((kindAt E.l k : Int) != (kind : Int)) = false) := Lib.hid (by simp; omega)
  have HR := Lib.hid h
  have hlt := kindAt_lt (l := E.l) (k := k) (by omega)
  obtain ⟨_, c0, c1, c2, c3, c4, c5⟩ := h.at
  have HL := Lib.hid h.len
  have hl := HL.out
  clear h hk hk0
  go_enter Tryd.func75, Tryd.ntmps75
  go_wp2_with fail
  refine (qkind HR.out).mono ?_
  rintro e w1 ⟨rfl, m, rfl⟩
  have hv := HV.out
  clear c0 c1 c2 c3 c4 c5
  go_wp2_with fail
  refine (qword (HR.out.drewN m)).mono ?_
  rintro e w2 ⟨rfl, m2, rfl⟩
  have hr2 := HR.out.drewN (m + m2)
  obtain ⟨_, c0, c1, c2, c3, c4, c5⟩ := hr2.at
  have f1 := hr2.fz 1
  have hb1 := hr2.lt
  have HR2 := Lib.hid hr2
  clear hr2
  go_wp2
  go_ret
  exact ⟨rfl, HR2.out.step (k + 1) hlt, grown_set (grown_drewN (grown_refl _ _) _) 1 _⟩
end
end Go.Proofs.YtefjgpahgffmfaaDoor
