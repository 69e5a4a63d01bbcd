/- The page's reader (transhipref09): its block; walks of Kind, Word, Fail, Want. Walk of the page's Level. Walks of the page's push and pop. -/
import Derived.Test.YtfklmcmoackepaaDoorQr
import Derived.Test.YtfklmcmoackepaaDoorRefLex
namespace Go.Proofs.YtfklmcmoackepaaDoor
open Go.RowKit

def rqCells (lv : Value) (k bad : Int) (i j : Int) (nv : Value) : Array Value := #[lv, .int .i64 k, .int .i64 bad, .int .i64 i, .int .i64 j, nv]
def MdQ (E : REnv) (kk bad : Int) : Md → Prop
  | .ok k => kk = k ∧ k ≤ E.l.length ∧ bad = -1
  | .bad q => bad = q ∧ 0 ≤ kk ∧ kk ≤ E.l.length
def CapOK (v : Value) (n : Nat) : Prop := ∃ a c, v = .slice a n c ∧ n ≤ c
theorem capOK_own {w : World} {base size n : Nat} {e : TypeId} {v : Value} {xs : List Value} (h : w.ownsRow base e size v n xs) : CapOK v n := by
  rcases h.2 with ⟨rfl, rfl⟩ | ⟨g, c, u, rfl, _, _, hn, _⟩
  · exact ⟨none, 0, rfl, Nat.le_refl _⟩
  · exact ⟨_, _, rfl, hn⟩
/-- the page's reader in block b -/
structure Rq (E : REnv) (lv : Value) (b : Nat) (w : World) (nv : Value) (nm : List (List UInt8)) (m : Md) : Prop where
  cells : ∃ kk bad, w.heap[b]? = some (.cells (rqCells lv kk bad E.i E.j nv) 60 (0, 0)) ∧ MdQ E kk bad m
  hasN : Has w 1 nv nm.length (textRow nm)
  farN : nv.ownBlock ≠ some b
  cap : CapOK nv nm.length
  has : Has w 3 lv E.l.length (toksCells E.l)
  far : lv.ownBlock ≠ some b
  short : ∀ k, (textAt E.l k).length ≤ 1099511627776
  len : E.l.length ≤ 1099511627776
  lev : E.i ≤ 1000 ∧ E.j ≤ 1000
  names : nm.length ≤ 8796093022208

section
variable {E : REnv} {lv : Value} {b : Nat} {w w' : World} {nv : Value} {nm : List (List UInt8)} {m m' : Md}
theorem Rq.lt (h : Rq E lv b w nv nm m) : b < w.heap.size := by obtain ⟨kk, bad, hc, _⟩ := h.cells; exact (Array.getElem?_eq_some_iff.1 hc).1
theorem Rq.fz (h : Rq E lv b w nv nm m) (j : Nat) : w.frozen? ⟨b, j, none⟩ = false := by obtain ⟨kk, bad, hc, _⟩ := h.cells; simp [World.frozen?, hc]
theorem Rq.kept (h : Rq E lv b w nv nm m) (hb : Below w.heap.size w w') : Rq E lv b w' nv nm m := by
  obtain ⟨kk, bad, hc, hm⟩ := h.cells
  exact { h with cells := ⟨kk, bad, by rw [hb.block b h.lt]; exact hc, hm⟩, hasN := h.hasN.grown (grown_below hb) h.farN, has := h.has.grown (grown_below hb) h.far }
theorem Rq.drewN (h : Rq E lv b w nv nm m) (n : Nat) : Rq E lv b (w.drewN n) nv nm m := by
  obtain ⟨kk, bad, hc, hm⟩ := h.cells
  exact { h with cells := ⟨kk, bad, hc, hm⟩, hasN := h.hasN.grown (grown_drewN (grown_refl _ (some b)) n) h.farN, has := h.has.grown (grown_drewN (grown_refl _ (some b)) n) h.far }
theorem Rq.at {k : Nat} (h : Rq E lv b w nv nm (.ok k)) : w.heap[b]? = some (.cells (rqCells lv k (-1) E.i E.j nv) 60 (0, 0)) ∧
    w.cell? ⟨b, 0, none⟩ = some lv ∧ w.cell? ⟨b, 1, none⟩ = some (.int .i64 k) ∧ w.cell? ⟨b, 2, none⟩ = some (.int .i64 (-1)) ∧ w.cell? ⟨b, 3, none⟩ = some (.int .i64 E.i) ∧ w.cell? ⟨b, 4, none⟩ = some (.int .i64 E.j) ∧ w.cell? ⟨b, 5, none⟩ = some nv := by
  obtain ⟨kk, bad, hc, ⟨rfl, _, rfl⟩⟩ := h.cells
  have hq : ∀ j : Nat, w.cell? ⟨b, j, none⟩ = (rqCells lv k (-1) E.i E.j nv)[j]? := fun j => by simp [World.cell?, hc]
  exact ⟨hc, hq 0, hq 1, hq 2, hq 3, hq 4, hq 5⟩
theorem Rq.le {k : Nat} (h : Rq E lv b w nv nm (.ok k)) : k ≤ E.l.length := by obtain ⟨kk, bad, hc, ⟨_, h1, _⟩⟩ := h.cells; exact h1
theorem Rq.at' {q : Nat} (h : Rq E lv b w nv nm (.bad q)) : ∃ kk, 0 ≤ kk ∧ kk ≤ 1099511627776 ∧ w.heap[b]? = some (.cells (rqCells lv kk q E.i E.j nv) 60 (0, 0)) ∧
    w.cell? ⟨b, 0, none⟩ = some lv ∧ w.cell? ⟨b, 1, none⟩ = some (.int .i64 kk) ∧ w.cell? ⟨b, 2, none⟩ = some (.int .i64 q) ∧ w.cell? ⟨b, 5, none⟩ = some nv := by
  obtain ⟨kk, bad, hc, ⟨rfl, h0, h1⟩⟩ := h.cells
  have hl := h.len
  have hq : ∀ j : Nat, w.cell? ⟨b, j, none⟩ = (rqCells lv kk q E.i E.j nv)[j]? := fun j => by simp [World.cell?, hc]
  exact ⟨kk, h0, by omega, hc, hq 0, hq 1, hq 2, hq 5⟩
theorem Rq.cell5 (h : Rq E lv b w nv nm m) : w.cell? ⟨b, 5, none⟩ = some nv := by
  obtain ⟨kk, bad, hc, _⟩ := h.cells
  simp [World.cell?, hc, rqCells]
theorem Rq.laid (h : Rq E lv b w nv nm m) (g : w.grownBy w' (some b)) {kk bad : Int} {nv' : Value} {nm' : List (List UInt8)} (hc : w'.heap[b]? = some (.cells (rqCells lv kk bad E.i E.j nv') 60 (0, 0))) (hm : MdQ E kk bad m') (hN : Has w' 1 nv' nm'.length (textRow nm')) (hf : nv'.ownBlock ≠ some b) (hcap : CapOK nv' nm'.length) (hl : nm'.length ≤ 8796093022208) : Rq E lv b w' nv' nm' m' :=
  { h with cells := ⟨kk, bad, hc, hm⟩, hasN := hN, farN := hf, cap := hcap, has := h.has.grown g h.far, names := hl }
theorem Rq.step {k : Nat} (h : Rq E lv b w nv nm (.ok k)) (k' : Nat) (hk : k' ≤ E.l.length) : Rq E lv b (w.setCell ⟨b, 1, none⟩ (.int .i64 k')) nv nm (.ok k') := by
  obtain ⟨hc, _⟩ := h.at
  have g : w.grownBy (w.setCell ⟨b, 1, none⟩ (.int .i64 k')) (some b) := grown_set (grown_refl _ _) 1 _
  exact h.laid g (kk := k') (bad := -1) (nv' := nv) (set1_at hc 1 _) ⟨rfl, hk, rfl⟩ (h.hasN.grown g h.farN) h.farN h.cap h.names
theorem Rq.failed {k : Nat} (h : Rq E lv b w nv nm (.ok k)) (x : Nat) : Rq E lv b (w.setCell ⟨b, 2, none⟩ (.int .i64 x)) nv nm (.bad x) := by
  have hle := h.le
  obtain ⟨hc, _⟩ := h.at
  have g : w.grownBy (w.setCell ⟨b, 2, none⟩ (.int .i64 x)) (some b) := grown_set (grown_refl _ _) 2 _
  exact h.laid g (kk := k) (bad := x) (nv' := nv) (set1_at hc 2 _) ⟨rfl, by omega, by omega⟩ (h.hasN.grown g h.farN) h.farN h.cap h.names
end

/-- the reader alone turns; its names stay -/
def TurnQ (E : REnv) (lv : Value) (b : Nat) (w : World) (nv : Value) (nm : List (List UInt8)) (m : Md) (w' : World) : Prop := Rq E lv b w' nv nm m ∧ w.grownBy w' (some b)

section
variable {E : REnv} {lv : Value} {b : Nat} {w : World} {nv : Value} {nm : List (List UInt8)}

set_option maxHeartbeats 1000000 in
set_option maxRecDepth 100000 in
theorem qkind {k : Nat} (h : Rq E lv b w nv nm (.ok k)) :
    Calls Tryd.prog 22 #[.pointer (some ⟨b, 0, none⟩)] w fun e w' => e = .returned (.int .i64 (kindAt E.l k : Nat)) ∧ ∃ m, w' = w.drewN m := by
  obtain ⟨_, c0, c1, c2, c3, c4, c5⟩ := h.at
  rcases h.has.2 with ⟨rfl, h0⟩ | ⟨bt, o, c, rfl, hn, hb, hcells⟩
  · have HV : Hid (kindAt E.l k = 0) := Lib.hid (kindAt_ge (by omega))
    have hlt : ¬ (k : Int) < ((0 : Nat) : Int) := by omega
    have hlt2 : decide ((k : Int) < 0) = false := by simp
    clear h h0
    go_enter Tryd.func22, Tryd.ntmps22
    go_wp2
    go_quiet (fail)
    go_wp2
    go_ret
    exact ⟨by rw [HV.out]; rfl, _, rfl⟩
  · unfold maxLen at hn
    by_cases hlt : k < E.l.length
    · have hat := toksCells_at E.l k hlt
      have t0 : w.cell? ⟨bt, o + k * 3, none⟩ = _ := (hcells (k * 3) (by omega)).trans hat.1
      have HV : Hid (kindAt E.l k = E.l[k].kind) := Lib.hid (kindAt_eq hlt)
      have hd : decide (k < E.l.length) = true := by simp [hlt]
      clear h hcells hat
      generalize E.l[k].kind = kk at t0 HV
      go_enter Tryd.func22, Tryd.ntmps22
      go_wp2
      go_quiet (fail)
      revert nq
      intro n1
      go_wp2
      go_quiet (fail)
      go_wp2
      go_ret
      exact ⟨by rw [HV.out]; rfl, n1 + nq, by simp⟩
    · have HV : Hid (kindAt E.l k = 0) := Lib.hid (kindAt_ge (by omega))
      have hd : decide (k < E.l.length) = false := by simp; omega
      clear h hcells
      go_enter Tryd.func22, Tryd.ntmps22
      go_wp2
      go_quiet (fail)
      go_wp2
      go_ret
      exact ⟨by rw [HV.out]; rfl, _, rfl⟩

set_option maxHeartbeats 1000000 in
set_option maxRecDepth 100000 in
theorem qword {k : Nat} (h : Rq E lv b w nv nm (.ok k)) :
    Calls Tryd.prog 37 #[.pointer (some ⟨b, 0, none⟩)] w fun e w' => e = .returned (.string ⟨(textAt E.l k).toArray⟩) ∧ ∃ m, w' = w.drewN m := by
  obtain ⟨_, c0, c1, c2, c3, c4, c5⟩ := h.at
  rcases h.has.2 with ⟨rfl, h0⟩ | ⟨bt, o, c, rfl, hn, hb, hcells⟩
  · have HV : Hid (textAt E.l k = []) := Lib.hid (textAt_ge (by omega))
    have hlt : ¬ (k : Int) < ((0 : Nat) : Int) := by omega
    have hlt2 : decide ((k : Int) < 0) = false := by simp
    clear h h0
    go_enter Tryd.func37, Tryd.ntmps37
    go_wp2
    go_quiet (fail)
    go_wp2
    go_ret
    exact ⟨by rw [HV.out]; rfl, _, rfl⟩
  · unfold maxLen at hn
    by_cases hlt : k < E.l.length
    · have hat := toksCells_at E.l k hlt
      have t0 : w.cell? ⟨bt, o + k * 3 + 1, none⟩ = _ := (hcells (k * 3 + 1) (by omega)).trans hat.2.1
      have HV : Hid (textAt E.l k = E.l[k].text) := Lib.hid (textAt_eq hlt)
      have hd : decide (k < E.l.length) = true := by simp [hlt]
      clear h hcells hat
      generalize E.l[k].text = kk at t0 HV
      go_enter Tryd.func37, Tryd.ntmps37
      go_wp2
      go_quiet (fail)
      revert nq
      intro n1
      go_wp2
      go_quiet (fail)
      go_wp2
      go_ret
      exact ⟨by rw [HV.out]; rfl, n1 + nq, by simp⟩
    · have HV : Hid (textAt E.l k = []) := Lib.hid (textAt_ge (by omega))
      have hd : decide (k < E.l.length) = false := by simp; omega
      clear h hcells
      go_enter Tryd.func37, Tryd.ntmps37
      go_wp2
      go_quiet (fail)
      go_wp2
      go_ret
      exact ⟨by rw [HV.out]; rfl, _, rfl⟩

set_option maxHeartbeats 1000000 in
set_option maxRecDepth 100000 in
theorem qfail_ok (x : Nat) {k : Nat} (h : Rq E lv b w nv nm (.ok k)) :
    Calls Tryd.prog 36 #[.pointer (some ⟨b, 0, none⟩), .int .i64 x] w fun e w' => e = .returned (.tuple #[]) ∧ TurnQ E lv b w nv nm (.bad x) w' := by
  obtain ⟨_, c0, c1, c2, c3, c4, c5⟩ := h.at
  have f2 := h.fz 2
  have hb := h.lt
  have HR := Lib.hid h
  clear h
  go_enter Tryd.func36, Tryd.ntmps36
  go_wp2
  exact post_end0 rfl rfl ⟨rfl, HR.out.failed x, grown_set (grown_refl _ _) 2 _⟩

set_option maxHeartbeats 1000000 in
set_option maxRecDepth 100000 in
theorem qfail_bad (x : Int) {q : Nat} (h : Rq E lv b w nv nm (.bad q)) :
    Calls Tryd.prog 36 #[.pointer (some ⟨b, 0, none⟩), .int .i64 x] w fun e w' => e = .returned (.tuple #[]) ∧ w' = w := by
  obtain ⟨kk, h0, h1, _, c0, c1, c2, c5⟩ := h.at'
  have hq : ¬ ((q : Int) < 0) := by omega
  clear h h0 h1
  go_enter Tryd.func36, Tryd.ntmps36
  go_wp2
  exact post_end0 rfl rfl ⟨rfl, rfl⟩

set_option maxHeartbeats 1000000 in
set_option maxRecDepth 100000 in
theorem qwant_bad (kind : Int) {q : Nat} (h : Rq E lv b w nv nm (.bad q)) :
    Calls Tryd.prog 21 #[.pointer (some ⟨b, 0, none⟩), .int .i64 kind] w fun e w' => e = .returned (.string ⟨#[]⟩) ∧ TurnQ E lv b w nv nm (.bad q) w' := by
  obtain ⟨kk, h0, h1, _, c0, c1, c2, c5⟩ := h.at'
  have HR := Lib.hid h
  have hq : (0 : Int) ≤ (q : Int) := by omega
  clear h h0 h1
  go_enter Tryd.func21, Tryd.ntmps21
  go_wp2
  go_ret
  exact ⟨rfl, HR.out, grown_refl _ _⟩

set_option maxHeartbeats 1000000 in
set_option maxRecDepth 100000 in
theorem qwant_miss (kind : Nat) {k : Nat} (hk : kindAt E.l k ≠ kind) (h : Rq E lv b w nv nm (.ok k)) :
    Calls Tryd.prog 21 #[.pointer (some ⟨b, 0, none⟩), .int .i64 kind] w fun e w' => e = .returned (.string ⟨#[]⟩) ∧ TurnQ E lv b w nv nm (.bad k) w' := by
  have HV : Hid (((kindAt E.l k : Int) != (kind : Int)) = true) := Lib.hid (by simp; omega)
  have HR := Lib.hid h
  obtain ⟨_, c0, c1, c2, c3, c4, c5⟩ := h.at
  clear h hk
  go_enter Tryd.func21, Tryd.ntmps21
  go_wp2_with fail
  refine (qkind HR.out).mono ?_
  rintro e w1 ⟨rfl, m, rfl⟩
  have hv := HV.out
  obtain ⟨_, d0, d1, d2, d3, d4, d5⟩ := (HR.out.drewN m).at
  go_wp2_with fail
  refine (qfail_ok k (HR.out.drewN m)).mono ?_
  rintro e w2 ⟨rfl, ht⟩
  go_wp2
  go_ret
  exact ⟨rfl, ht.1, grown_trans (grown_drewN (grown_refl _ _) _) ht.2⟩

set_option maxHeartbeats 1000000 in
set_option maxRecDepth 100000 in
theorem qwant_ok (kind : Nat) (hk0 : kind ≠ 0) {k : Nat} (hk : kindAt E.l k = kind) (h : Rq E lv b w nv nm (.ok k)) :
    Calls Tryd.prog 21 #[.pointer (some ⟨b, 0, none⟩), .int .i64 kind] w fun e w' => e = .returned (.string ⟨(textAt E.l k).toArray⟩) ∧ TurnQ E lv b w nv nm (.ok (k + 1)) w' := by
  have HV : Hid (((kindAt E.l k : Int) != (kind : Int)) = false) := Lib.hid (by simp; omega)
  have HR := Lib.hid h
  have hlt := kindAt_lt (l := E.l) (k := k) (by omega)
  obtain ⟨_, c0, c1, c2, c3, c4, c5⟩ := h.at
  have HL := Lib.hid h.len
  have hl := HL.out
  clear h hk hk0
  go_enter Tryd.func21, Tryd.ntmps21
  go_wp2_with fail
  refine (qkind HR.out).mono ?_
  rintro e w1 ⟨rfl, m, rfl⟩
  have hv := HV.out
  clear c0 c1 c2 c3 c4 c5
  go_wp2_with fail
  refine (qword (HR.out.drewN m)).mono ?_
  rintro e w2 ⟨rfl, m2, rfl⟩
  have hr2 := HR.out.drewN (m + m2)
  obtain ⟨_, c0, c1, c2, c3, c4, c5⟩ := hr2.at
  have f1 := hr2.fz 1
  have hb1 := hr2.lt
  have HR2 := Lib.hid hr2
  clear hr2
  go_wp2
  go_ret
  exact ⟨rfl, HR2.out.step (k + 1) hlt, grown_set (grown_drewN (grown_refl _ _) _) 1 _⟩
end
end Go.Proofs.YtfklmcmoackepaaDoor

namespace Go.Proofs.YtfklmcmoackepaaDoor
open Go.RowKit

def LevQ (E : REnv) (lv : Value) (b : Nat) (w : World) (nv : Value) (nm : List (List UInt8)) (r : RR Nat) (e : Ending) (w' : World) : Prop :=
  ∃ n : Nat, e = .returned (.int .i64 n) ∧ TurnQ E lv b w nv nm r.md w' ∧ (∀ a k', r = .ok a k' → n = a) ∧ n ≤ 1000
def LevelQC (E : REnv) (lv : Value) (b : Nat) (fuel : Nat) : Prop :=
  ∀ (nv : Value) (nm : List (List UInt8)) (k : Nat) (w : World), Rq E lv b w nv nm (.ok k) → E.l.length < k + fuel →
    Calls Tryd.prog 53 #[.pointer (some ⟨b, 0, none⟩)] w (LevQ E lv b w nv nm (levelM E fuel k))

section
variable {E : REnv} {lv : Value} {b : Nat} {w : World} {nv : Value} {nm : List (List UInt8)}
theorem LevQ.of_bad {q : Nat} {w' : World} (ht : TurnQ E lv b w nv nm (.bad q) w') : LevQ E lv b w nv nm (.bad q) (.returned (.int .i64 0)) w' :=
  ⟨0, rfl, ht, (fun a k' h => by cases h), Nat.zero_le _⟩
theorem LevQ.of_ok {k n : Nat} {w' : World} (ht : TurnQ E lv b w nv nm (.ok k) w') (hn : n ≤ 1000) : LevQ E lv b w nv nm (.ok n k) (.returned (.int .i64 n)) w' :=
  ⟨n, rfl, ht, (fun a k' h => by cases h; rfl), hn⟩
theorem qkindT {k : Nat} (h : Rq E lv b w nv nm (.ok k)) : Calls Tryd.prog 22 #[.pointer (some ⟨b, 0, none⟩)] w fun e w' => e = .returned (.int .i64 (kindAt E.l k : Nat)) ∧ TurnQ E lv b w nv nm (.ok k) w' :=
  (qkind h).mono fun e w' ⟨he, m, hw⟩ => ⟨he, by rw [hw]; exact h.drewN m, by rw [hw]; exact grown_drewN (grown_refl _ _) m⟩
theorem qwordT {k : Nat} (h : Rq E lv b w nv nm (.ok k)) : Calls Tryd.prog 37 #[.pointer (some ⟨b, 0, none⟩)] w fun e w' => e = .returned (.string ⟨(textAt E.l k).toArray⟩) ∧ TurnQ E lv b w nv nm (.ok k) w' :=
  (qword h).mono fun e w' ⟨he, m, hw⟩ => ⟨he, by rw [hw]; exact h.drewN m, by rw [hw]; exact grown_drewN (grown_refl _ _) m⟩
theorem capM_le {q n k a k' : Nat} (h : capM q n k = .ok a k') : a ≤ 1000 := by
  unfold capM at h
  split at h
  · cases h
  · cases h; omega

set_option maxHeartbeats 2000000 in
set_option maxRecDepth 100000 in
theorem qlevel_bad {q : Nat} (h : Rq E lv b w nv nm (.bad q)) : Calls Tryd.prog 53 #[.pointer (some ⟨b, 0, none⟩)] w (LevQ E lv b w nv nm (.bad q)) := by
  obtain ⟨kk, h0, h1, _, c0, c1, c2, c5⟩ := h.at'
  have HR := Lib.hid h
  have hq : (0 : Int) ≤ (q : Int) := by omega
  clear h h0 h1
  go_enter Tryd.func53, Tryd.ntmps53
  go_wp2
  go_ret
  exact LevQ.of_bad ⟨HR.out, grown_refl _ _⟩

set_option maxHeartbeats 2000000 in
set_option maxRecDepth 100000 in
/-- Level, at a number -/
theorem qlevel_num {k : Nat} (hk : kindAt E.l k = 4) (h : Rq E lv b w nv nm (.ok k)) : Calls Tryd.prog 53 #[.pointer (some ⟨b, 0, none⟩)] w (LevQ E lv b w nv nm (capM k ((getN (textAt E.l k)).getD 0) (k + 1))) := by
  have hlt := kindAt_lt (l := E.l) (k := k) (by omega)
  obtain ⟨n, hgn⟩ : ∃ n, n = (getN (textAt E.l k)).getD 0 := ⟨_, rfl⟩
  rw [← hgn]
  have hgl : n ≤ 1000000 := by rw [hgn]; exact getN_le _
  have HN := Lib.hid hgn
  have HK := Lib.hid hk
  have HSH := Lib.hid (h.short k)
  clear hgn hk
  have HR0 := Lib.hid h
  have HG0 := Lib.hid (grown_refl w (some b))
  have HL := Lib.hid h.len
  have hl := HL.out
  have HLV := Lib.hid h.lev
  obtain ⟨_, c0, c1, c2, c3, c4, c5⟩ := h.at
  clear h
  go_enter Tryd.func53, Tryd.ntmps53
  go_wp2_with fail
  refine (qkindT HR0.out).mono ?_
  rintro e w1 ⟨rfl, ht⟩
  have HR1 := Lib.hid ht.1
  have HG1 := Lib.hid (grown_trans HG0.out ht.2)
  clear ht c0 c1 c2 c3 c4 c5
  obtain ⟨_, c0, c1, c2, c3, c4, c5⟩ := HR1.out.at
  rw [HK.out]
  go_wp2_with fail
  refine (qwordT HR1.out).mono ?_
  rintro e w2 ⟨rfl, ht⟩
  have HR2 := Lib.hid ht.1
  have HG2 := Lib.hid (grown_trans HG1.out ht.2)
  clear ht c0 c1 c2 c3 c4 c5
  obtain ⟨_, c0, c1, c2, c3, c4, c5⟩ := HR2.out.at
  go_wp2_with fail
  refine (refget_any _ _ (by have := HSH.out; unfold maxLen; simp [ByteArray.size]; omega)).mono ?_
  rintro e w9 ⟨rfl, rfl⟩
  unfold getRVal
  have hval : (ByteArray.mk (textAt E.l k).toArray).data.toList = textAt E.l k := rfl
  rw [hval, ← getN_eq_getR, ← HN.out]
  clear hval
  have f1 := HR2.out.fz 1
  have hb1 := HR2.out.lt
  have HR3 := Lib.hid (HR2.out.step (k + 1) hlt)
  have HG3 := Lib.hid (grown_set HG2.out 1 (.int .i64 ((k + 1 : Nat) : Int)))
  by_cases hc : 1000 < n
  · have hgt : decide ((1000 : Int) < (n : Int)) = true := by simp; omega
    have HC : Hid (capM k n (k + 1) = .bad k) := Lib.hid (by unfold capM; rw [if_pos hc])
    go_wp2_with fail
    refine (qfail_ok k HR3.out).mono ?_
    rintro e w4 ⟨rfl, ht⟩
    have HR4 := Lib.hid ht.1
    have HG4 := Lib.hid (grown_trans HG3.out ht.2)
    clear ht c0 c1 c2 c3 c4 c5 f1 hb1
    obtain ⟨kk4, h0, h1, _, c0, c1, c2, c5⟩ := HR4.out.at'
    have hq0 : (0 : Int) ≤ (k : Int) := by omega
    clear h0 h1
    go_wp2
    go_ret
    rw [HC.out]; exact LevQ.of_bad ⟨HR4.out, HG4.out⟩
  · have hgt : decide ((1000 : Int) < (n : Int)) = false := by simp; omega
    have HC : Hid (capM k n (k + 1) = .ok n (k + 1)) := Lib.hid (by unfold capM; rw [if_neg hc])
    go_wp2
    go_ret
    rw [HC.out]; exact LevQ.of_ok ⟨HR3.out, HG3.out⟩ (by omega)

set_option maxHeartbeats 2000000 in
set_option maxRecDepth 100000 in
/-- Level, at i -/
theorem qlevel_i {k : Nat} (hk : kindAt E.l k = 3) (hx : textAt E.l k = wI) (h : Rq E lv b w nv nm (.ok k)) : Calls Tryd.prog 53 #[.pointer (some ⟨b, 0, none⟩)] w (LevQ E lv b w nv nm (capM k E.i (k + 1))) := by
  unfold wI at hx
  have hlt := kindAt_lt (l := E.l) (k := k) (by omega)
  have HK := Lib.hid hk
  have HX := Lib.hid hx
  have HC : Hid (capM k E.i (k + 1) = .ok E.i (k + 1)) := Lib.hid (by unfold capM; rw [if_neg (by have := h.lev; omega)])
  have hgt : decide ((1000 : Int) < (E.i : Int)) = false := by have := h.lev; simp; omega
  clear hk hx
  have HR0 := Lib.hid h
  have HG0 := Lib.hid (grown_refl w (some b))
  have HL := Lib.hid h.len
  have hl := HL.out
  have HLV := Lib.hid h.lev
  obtain ⟨_, c0, c1, c2, c3, c4, c5⟩ := h.at
  clear h
  go_enter Tryd.func53, Tryd.ntmps53
  go_wp2_with fail
  refine (qkindT HR0.out).mono ?_
  rintro e w1 ⟨rfl, ht⟩
  have HR1 := Lib.hid ht.1
  have HG1 := Lib.hid (grown_trans HG0.out ht.2)
  clear ht c0 c1 c2 c3 c4 c5
  obtain ⟨_, c0, c1, c2, c3, c4, c5⟩ := HR1.out.at
  rw [HK.out]
  go_wp2_with fail
  refine (qkindT HR1.out).mono ?_
  rintro e w2 ⟨rfl, ht⟩
  have HR2 := Lib.hid ht.1
  have HG2 := Lib.hid (grown_trans HG1.out ht.2)
  clear ht c0 c1 c2 c3 c4 c5
  obtain ⟨_, c0, c1, c2, c3, c4, c5⟩ := HR2.out.at
  rw [HK.out]
  go_wp2_with fail
  refine (qwordT HR2.out).mono ?_
  rintro e w3 ⟨rfl, ht⟩
  have HR3 := Lib.hid ht.1
  have HG3 := Lib.hid (grown_trans HG2.out ht.2)
  clear ht c0 c1 c2 c3 c4 c5
  obtain ⟨_, c0, c1, c2, c3, c4, c5⟩ := HR3.out.at
  rw [HX.out]
  have f1 := HR3.out.fz 1
  have hb1 := HR3.out.lt
  have HR4 := Lib.hid (HR3.out.step (k + 1) hlt)
  have HG4 := Lib.hid (grown_set HG3.out 1 (.int .i64 ((k + 1 : Nat) : Int)))
  go_wp2
  go_ret
  rw [HC.out]; exact LevQ.of_ok ⟨HR4.out, HG4.out⟩ (by have := HLV.out; omega)

set_option maxHeartbeats 2000000 in
set_option maxRecDepth 100000 in
/-- Level, at j -/
theorem qlevel_j {k : Nat} (hk : kindAt E.l k = 3) (hx : textAt E.l k = wJ) (h : Rq E lv b w nv nm (.ok k)) : Calls Tryd.prog 53 #[.pointer (some ⟨b, 0, none⟩)] w (LevQ E lv b w nv nm (capM k E.j (k + 1))) := by
  unfold wJ at hx
  have hlt := kindAt_lt (l := E.l) (k := k) (by omega)
  have HK := Lib.hid hk
  have HX := Lib.hid hx
  have HC : Hid (capM k E.j (k + 1) = .ok E.j (k + 1)) := Lib.hid (by unfold capM; rw [if_neg (by have := h.lev; omega)])
  have hgt : decide ((1000 : Int) < (E.j : Int)) = false := by have := h.lev; simp; omega
  clear hk hx
  have HR0 := Lib.hid h
  have HG0 := Lib.hid (grown_refl w (some b))
  have HL := Lib.hid h.len
  have hl := HL.out
  have HLV := Lib.hid h.lev
  obtain ⟨_, c0, c1, c2, c3, c4, c5⟩ := h.at
  clear h
  go_enter Tryd.func53, Tryd.ntmps53
  go_wp2_with fail
  refine (qkindT HR0.out).mono ?_
  rintro e w1 ⟨rfl, ht⟩
  have HR1 := Lib.hid ht.1
  have HG1 := Lib.hid (grown_trans HG0.out ht.2)
  clear ht c0 c1 c2 c3 c4 c5
  obtain ⟨_, c0, c1, c2, c3, c4, c5⟩ := HR1.out.at
  rw [HK.out]
  go_wp2_with fail
  refine (qkindT HR1.out).mono ?_
  rintro e w2 ⟨rfl, ht⟩
  have HR2 := Lib.hid ht.1
  have HG2 := Lib.hid (grown_trans HG1.out ht.2)
  clear ht c0 c1 c2 c3 c4 c5
  obtain ⟨_, c0, c1, c2, c3, c4, c5⟩ := HR2.out.at
  rw [HK.out]
  go_wp2_with fail
  refine (qwordT HR2.out).mono ?_
  rintro e w3 ⟨rfl, ht⟩
  have HR3 := Lib.hid ht.1
  have HG3 := Lib.hid (grown_trans HG2.out ht.2)
  clear ht c0 c1 c2 c3 c4 c5
  obtain ⟨_, c0, c1, c2, c3, c4, c5⟩ := HR3.out.at
  rw [HX.out]
  go_wp2_with fail
  refine (qkindT HR3.out).mono ?_
  rintro e w4 ⟨rfl, ht⟩
  have HR4 := Lib.hid ht.1
  have HG4 := Lib.hid (grown_trans HG3.out ht.2)
  clear ht c0 c1 c2 c3 c4 c5
  obtain ⟨_, c0, c1, c2, c3, c4, c5⟩ := HR4.out.at
  rw [HK.out]
  go_wp2_with fail
  refine (qwordT HR4.out).mono ?_
  rintro e w5 ⟨rfl, ht⟩
  have HR5 := Lib.hid ht.1
  have HG5 := Lib.hid (grown_trans HG4.out ht.2)
  clear ht c0 c1 c2 c3 c4 c5
  obtain ⟨_, c0, c1, c2, c3, c4, c5⟩ := HR5.out.at
  rw [HX.out]
  have f1 := HR5.out.fz 1
  have hb1 := HR5.out.lt
  have HR6 := Lib.hid (HR5.out.step (k + 1) hlt)
  have HG6 := Lib.hid (grown_set HG5.out 1 (.int .i64 ((k + 1 : Nat) : Int)))
  go_wp2
  go_ret
  rw [HC.out]; exact LevQ.of_ok ⟨HR6.out, HG6.out⟩ (by have := HLV.out; omega)

set_option maxHeartbeats 2000000 in
set_option maxRecDepth 100000 in
/-- Level, at anything else -/
theorem qlevel_else {k : Nat} (h4 : kindAt E.l k ≠ 4) (h1 : kindAt E.l k ≠ 1) (hi : kindAt E.l k = 3 → textAt E.l k ≠ wI) (hj : kindAt E.l k = 3 → textAt E.l k ≠ wJ) (h : Rq E lv b w nv nm (.ok k)) : Calls Tryd.prog 53 #[.pointer (some ⟨b, 0, none⟩)] w (LevQ E lv b w nv nm (.bad k)) := by
  have k4 : ((kindAt E.l k : Int) == 4) = false := by simp; omega
  have k1 : ((kindAt E.l k : Int) == 1) = false := by simp; omega
  by_cases h3 : kindAt E.l k = 3
  · have k3 : ((kindAt E.l k : Int) == 3) = true := by simp; omega
    have x1 : (textAt E.l k == [105]) = false := by simpa [wI] using hi h3
    have x2 : (textAt E.l k == [106]) = false := by simpa [wJ] using hj h3
    clear h4 h1 hi hj h3
    have HR0 := Lib.hid h
    have HG0 := Lib.hid (grown_refl w (some b))
    have HL := Lib.hid h.len
    have hl := HL.out
    have HLV := Lib.hid h.lev
    obtain ⟨_, c0, c1, c2, c3, c4, c5⟩ := h.at
    clear h
    go_enter Tryd.func53, Tryd.ntmps53
    go_wp2_with fail
    refine (qkindT HR0.out).mono ?_
    rintro e w1 ⟨rfl, ht⟩
    have HR1 := Lib.hid ht.1
    have HG1 := Lib.hid (grown_trans HG0.out ht.2)
    clear ht c0 c1 c2 c3 c4 c5
    obtain ⟨_, c0, c1, c2, c3, c4, c5⟩ := HR1.out.at
    go_wp2_with fail
    refine (qkindT HR1.out).mono ?_
    rintro e w2 ⟨rfl, ht⟩
    have HR2 := Lib.hid ht.1
    have HG2 := Lib.hid (grown_trans HG1.out ht.2)
    clear ht c0 c1 c2 c3 c4 c5
    obtain ⟨_, c0, c1, c2, c3, c4, c5⟩ := HR2.out.at
    go_wp2_with fail
    refine (qwordT HR2.out).mono ?_
    rintro e w3 ⟨rfl, ht⟩
    have HR3 := Lib.hid ht.1
    have HG3 := Lib.hid (grown_trans HG2.out ht.2)
    clear ht c0 c1 c2 c3 c4 c5
    obtain ⟨_, c0, c1, c2, c3, c4, c5⟩ := HR3.out.at
    go_wp2_with fail
    refine (qkindT HR3.out).mono ?_
    rintro e w4 ⟨rfl, ht⟩
    have HR4 := Lib.hid ht.1
    have HG4 := Lib.hid (grown_trans HG3.out ht.2)
    clear ht c0 c1 c2 c3 c4 c5
    obtain ⟨_, c0, c1, c2, c3, c4, c5⟩ := HR4.out.at
    go_wp2_with fail
    refine (qwordT HR4.out).mono ?_
    rintro e w5 ⟨rfl, ht⟩
    have HR5 := Lib.hid ht.1
    have HG5 := Lib.hid (grown_trans HG4.out ht.2)
    clear ht c0 c1 c2 c3 c4 c5
    obtain ⟨_, c0, c1, c2, c3, c4, c5⟩ := HR5.out.at
    go_wp2_with fail
    refine (qkindT HR5.out).mono ?_
    rintro e w6 ⟨rfl, ht⟩
    have HR6 := Lib.hid ht.1
    have HG6 := Lib.hid (grown_trans HG5.out ht.2)
    clear ht c0 c1 c2 c3 c4 c5
    obtain ⟨_, c0, c1, c2, c3, c4, c5⟩ := HR6.out.at
    go_wp2_with fail
    refine (qfail_ok k HR6.out).mono ?_
    rintro e w7 ⟨rfl, ht⟩
    have HR7 := Lib.hid ht.1
    have HG7 := Lib.hid (grown_trans HG6.out ht.2)
    clear ht c0 c1 c2 c3 c4 c5
    obtain ⟨kk7, h0, h1, _, c0, c1, c2, c5⟩ := HR7.out.at'
    have hq0 : (0 : Int) ≤ (k : Int) := by omega
    clear h0 h1
    go_wp2
    go_ret
    exact LevQ.of_bad ⟨HR7.out, HG7.out⟩
  · have k3 : ((kindAt E.l k : Int) == 3) = false := by simp; omega
    clear h4 h1 hi hj h3
    have HR0 := Lib.hid h
    have HG0 := Lib.hid (grown_refl w (some b))
    have HL := Lib.hid h.len
    have hl := HL.out
    have HLV := Lib.hid h.lev
    obtain ⟨_, c0, c1, c2, c3, c4, c5⟩ := h.at
    clear h
    go_enter Tryd.func53, Tryd.ntmps53
    go_wp2_with fail
    refine (qkindT HR0.out).mono ?_
    rintro e w1 ⟨rfl, ht⟩
    have HR1 := Lib.hid ht.1
    have HG1 := Lib.hid (grown_trans HG0.out ht.2)
    clear ht c0 c1 c2 c3 c4 c5
    obtain ⟨_, c0, c1, c2, c3, c4, c5⟩ := HR1.out.at
    go_wp2_with fail
    refine (qkindT HR1.out).mono ?_
    rintro e w2 ⟨rfl, ht⟩
    have HR2 := Lib.hid ht.1
    have HG2 := Lib.hid (grown_trans HG1.out ht.2)
    clear ht c0 c1 c2 c3 c4 c5
    obtain ⟨_, c0, c1, c2, c3, c4, c5⟩ := HR2.out.at
    go_wp2_with fail
    refine (qkindT HR2.out).mono ?_
    rintro e w3 ⟨rfl, ht⟩
    have HR3 := Lib.hid ht.1
    have HG3 := Lib.hid (grown_trans HG2.out ht.2)
    clear ht c0 c1 c2 c3 c4 c5
    obtain ⟨_, c0, c1, c2, c3, c4, c5⟩ := HR3.out.at
    go_wp2_with fail
    refine (qkindT HR3.out).mono ?_
    rintro e w4 ⟨rfl, ht⟩
    have HR4 := Lib.hid ht.1
    have HG4 := Lib.hid (grown_trans HG3.out ht.2)
    clear ht c0 c1 c2 c3 c4 c5
    obtain ⟨_, c0, c1, c2, c3, c4, c5⟩ := HR4.out.at
    go_wp2_with fail
    refine (qfail_ok k HR4.out).mono ?_
    rintro e w5 ⟨rfl, ht⟩
    have HR5 := Lib.hid ht.1
    have HG5 := Lib.hid (grown_trans HG4.out ht.2)
    clear ht c0 c1 c2 c3 c4 c5
    obtain ⟨kk5, h0, h1, _, c0, c1, c2, c5⟩ := HR5.out.at'
    have hq0 : (0 : Int) ≤ (k : Int) := by omega
    clear h0 h1
    go_wp2
    go_ret
    exact LevQ.of_bad ⟨HR5.out, HG5.out⟩

set_option maxHeartbeats 2000000 in
set_option maxRecDepth 100000 in
/-- Level, at a bracket with neither word behind it -/
theorem qlevel_word {k : Nat} (hk : kindAt E.l k = 1) (hs : kindAt E.l (k + 1) = 3 → textAt E.l (k + 1) ≠ wSuc) (hm : kindAt E.l (k + 1) = 3 → textAt E.l (k + 1) ≠ wMax) (h : Rq E lv b w nv nm (.ok k)) : Calls Tryd.prog 53 #[.pointer (some ⟨b, 0, none⟩)] w (LevQ E lv b w nv nm (.bad (k + 1))) := by
  have hlt := kindAt_lt (l := E.l) (k := k) (by omega)
  have HK := Lib.hid hk
  clear hk
  have hf : (((kindAt E.l (k + 1) : Int) != 3) = true) ∨ (((kindAt E.l (k + 1) : Int) != 3) = false ∧ (textAt E.l (k + 1) == [115, 117, 99]) = false ∧ (textAt E.l (k + 1) == [109, 97, 120]) = false) := by
    by_cases h3 : kindAt E.l (k + 1) = 3
    · exact .inr ⟨by simp; omega, by simpa [wSuc] using hs h3, by simpa [wMax] using hm h3⟩
    · exact .inl (by simp; omega)
  clear hs hm
  rcases hf with k3 | ⟨k3, x1, x2⟩
  all_goals
    have HR0 := Lib.hid h
    have HG0 := Lib.hid (grown_refl w (some b))
    have HL := Lib.hid h.len
    have hl := HL.out
    have HLV := Lib.hid h.lev
    obtain ⟨_, c0, c1, c2, c3, c4, c5⟩ := h.at
    clear h
    go_enter Tryd.func53, Tryd.ntmps53
    go_wp2_with fail
    refine (qkindT HR0.out).mono ?_
    rintro e w1 ⟨rfl, ht⟩
    have HR1 := Lib.hid ht.1
    have HG1 := Lib.hid (grown_trans HG0.out ht.2)
    clear ht c0 c1 c2 c3 c4 c5
    obtain ⟨_, c0, c1, c2, c3, c4, c5⟩ := HR1.out.at
    rw [HK.out]
    go_wp2_with fail
    refine (qkindT HR1.out).mono ?_
    rintro e w2 ⟨rfl, ht⟩
    have HR2 := Lib.hid ht.1
    have HG2 := Lib.hid (grown_trans HG1.out ht.2)
    clear ht c0 c1 c2 c3 c4 c5
    obtain ⟨_, c0, c1, c2, c3, c4, c5⟩ := HR2.out.at
    rw [HK.out]
    go_wp2_with fail
    refine (qkindT HR2.out).mono ?_
    rintro e w3 ⟨rfl, ht⟩
    have HR3 := Lib.hid ht.1
    have HG3 := Lib.hid (grown_trans HG2.out ht.2)
    clear ht c0 c1 c2 c3 c4 c5
    obtain ⟨_, c0, c1, c2, c3, c4, c5⟩ := HR3.out.at
    rw [HK.out]
    go_wp2_with fail
    refine (qkindT HR3.out).mono ?_
    rintro e w4 ⟨rfl, ht⟩
    have HR4 := Lib.hid ht.1
    have HG4 := Lib.hid (grown_trans HG3.out ht.2)
    clear ht c0 c1 c2 c3 c4 c5
    obtain ⟨_, c0, c1, c2, c3, c4, c5⟩ := HR4.out.at
    rw [HK.out]
    have f1 := HR4.out.fz 1
    have hb1 := HR4.out.lt
    have HR5 := Lib.hid (HR4.out.step (k + 1) hlt)
    have HG5 := Lib.hid (grown_set HG4.out 1 (.int .i64 ((k + 1 : Nat) : Int)))
    go_wp2_with fail
    refine (qwordT HR5.out).mono ?_
    rintro e w6 ⟨rfl, ht⟩
    have HR6 := Lib.hid ht.1
    have HG6 := Lib.hid (grown_trans HG5.out ht.2)
    clear ht c0 c1 c2 c3 c4 c5 f1 hb1
    obtain ⟨_, c0, c1, c2, c3, c4, c5⟩ := HR6.out.at
    go_wp2_with fail
    refine (qkindT HR6.out).mono ?_
    rintro e w7 ⟨rfl, ht⟩
    have HR7 := Lib.hid ht.1
    have HG7 := Lib.hid (grown_trans HG6.out ht.2)
    clear ht c0 c1 c2 c3 c4 c5
    obtain ⟨_, c0, c1, c2, c3, c4, c5⟩ := HR7.out.at
    go_wp2_with fail
    refine (qfail_ok (k + 1) HR7.out).mono ?_
    rintro e w8 ⟨rfl, ht⟩
    have HR8 := Lib.hid ht.1
    have HG8 := Lib.hid (grown_trans HG7.out ht.2)
    clear ht c0 c1 c2 c3 c4 c5
    obtain ⟨kk8, h0, h1, _, c0, c1, c2, c5⟩ := HR8.out.at'
    go_wp2
    go_ret
    exact LevQ.of_bad ⟨HR8.out, HG8.out⟩

set_option maxHeartbeats 2000000 in
set_option maxRecDepth 100000 in
/-- Level, at suc -/
theorem qlevel_suc {k : Nat} (f : Nat) (ih : LevelQC E lv b f) (hf : E.l.length < k + 2 + f) (hk : kindAt E.l k = 1) (hk1 : kindAt E.l (k + 1) = 3) (hx : textAt E.l (k + 1) = wSuc) (h : Rq E lv b w nv nm (.ok k)) :
    Calls Tryd.prog 53 #[.pointer (some ⟨b, 0, none⟩)] w (LevQ E lv b w nv nm (((levelM E f (k + 2)).bind fun n k' => clM E (n + 1) k').bind fun n k' => capM k n k')) := by
  unfold wSuc at hx
  have hlt1 := kindAt_lt (l := E.l) (k := k + 1) (by omega)
  have HK1 := Lib.hid hk1
  have HX := Lib.hid hx
  have IH := Lib.hid ih
  generalize hr : levelM E f (k + 2) = r
  generalize hres : (r.bind fun n k' => clM E (n + 1) k').bind (fun n k' => capM k n k') = res
  have HRES := Lib.hid hres
  have HRR0 := Lib.hid hr
  clear hres hr ih hk1 hx
  have hlt := kindAt_lt (l := E.l) (k := k) (by omega)
  have HK := Lib.hid hk
  clear hk
  have HR0 := Lib.hid h
  have HG0 := Lib.hid (grown_refl w (some b))
  have HL := Lib.hid h.len
  have hl := HL.out
  have HLV := Lib.hid h.lev
  obtain ⟨_, c0, c1, c2, c3, c4, c5⟩ := h.at
  clear h
  go_enter Tryd.func53, Tryd.ntmps53
  go_wp2_with fail
  refine (qkindT HR0.out).mono ?_
  rintro e w1 ⟨rfl, ht⟩
  have HR1 := Lib.hid ht.1
  have HG1 := Lib.hid (grown_trans HG0.out ht.2)
  clear ht c0 c1 c2 c3 c4 c5
  obtain ⟨_, c0, c1, c2, c3, c4, c5⟩ := HR1.out.at
  rw [HK.out]
  go_wp2_with fail
  refine (qkindT HR1.out).mono ?_
  rintro e w2 ⟨rfl, ht⟩
  have HR2 := Lib.hid ht.1
  have HG2 := Lib.hid (grown_trans HG1.out ht.2)
  clear ht c0 c1 c2 c3 c4 c5
  obtain ⟨_, c0, c1, c2, c3, c4, c5⟩ := HR2.out.at
  rw [HK.out]
  go_wp2_with fail
  refine (qkindT HR2.out).mono ?_
  rintro e w3 ⟨rfl, ht⟩
  have HR3 := Lib.hid ht.1
  have HG3 := Lib.hid (grown_trans HG2.out ht.2)
  clear ht c0 c1 c2 c3 c4 c5
  obtain ⟨_, c0, c1, c2, c3, c4, c5⟩ := HR3.out.at
  rw [HK.out]
  go_wp2_with fail
  refine (qkindT HR3.out).mono ?_
  rintro e w4 ⟨rfl, ht⟩
  have HR4 := Lib.hid ht.1
  have HG4 := Lib.hid (grown_trans HG3.out ht.2)
  clear ht c0 c1 c2 c3 c4 c5
  obtain ⟨_, c0, c1, c2, c3, c4, c5⟩ := HR4.out.at
  rw [HK.out]
  have f1 := HR4.out.fz 1
  have hb1 := HR4.out.lt
  have HR5 := Lib.hid (HR4.out.step (k + 1) hlt)
  have HG5 := Lib.hid (grown_set HG4.out 1 (.int .i64 ((k + 1 : Nat) : Int)))
  go_wp2_with fail
  refine (qwordT HR5.out).mono ?_
  rintro e w6 ⟨rfl, ht⟩
  have HR6 := Lib.hid ht.1
  have HG6 := Lib.hid (grown_trans HG5.out ht.2)
  clear ht c0 c1 c2 c3 c4 c5 f1 hb1
  obtain ⟨_, c0, c1, c2, c3, c4, c5⟩ := HR6.out.at
  rw [HX.out]
  go_wp2_with fail
  refine (qkindT HR6.out).mono ?_
  rintro e w7 ⟨rfl, ht⟩
  have HR7 := Lib.hid ht.1
  have HG7 := Lib.hid (grown_trans HG6.out ht.2)
  clear ht c0 c1 c2 c3 c4 c5
  obtain ⟨_, c0, c1, c2, c3, c4, c5⟩ := HR7.out.at
  rw [HK1.out]
  have f1 := HR7.out.fz 1
  have hb1 := HR7.out.lt
  have HR8 := Lib.hid (HR7.out.step (k + 2) hlt1)
  have HG8 := Lib.hid (grown_set HG7.out 1 (.int .i64 ((k + 2 : Nat) : Int)))
  go_wp2_with fail
  refine (IH.out _ nm _ _ HR8.out (by omega)).mono ?_
  rintro e w9 ⟨n, rfl, ht, hval, hnn⟩
  rw [HRR0.out] at ht hval
  have HT := Lib.hid ht
  have HGT := Lib.hid (grown_trans HG8.out ht.2)
  clear c0 c1 c2 c3 c4 c5 f1 hb1 ht
  cases r with
  | bad q =>
    have HR9 : Hid (Rq E lv b w9 nv nm (.bad q)) := Lib.hid HT.out.1
    have HG9 := HGT
    obtain ⟨kk9, h0, h1, _, c0, c1, c2, c5⟩ := HR9.out.at'
    have hng : (0 : Int) ≤ (q : Int) := by omega
    clear h0 h1 hval
    go_wp2_with fail
    refine (qwant_bad 2 HR9.out).mono ?_
    rintro e w10 ⟨rfl, ht⟩
    have HR10 := Lib.hid ht.1
    have HG10 := Lib.hid (grown_trans HG9.out ht.2)
    clear ht c0 c1 c2 c5
    obtain ⟨kk10, h0, h1, _, c0, c1, c2, c5⟩ := HR10.out.at'
    clear h0 h1
    by_cases hc : 1000 < n + 1
    · have hgt : decide ((1000 : Int) < (n : Int) + 1) = true := by simp; omega
      go_wp2_with fail
      refine (qfail_bad _ HR10.out).mono ?_
      rintro e w11 ⟨rfl, rfl⟩
      go_wp2
      go_ret
      rw [← HRES.out]
      exact LevQ.of_bad ⟨HR10.out, HG10.out⟩
    · have hgt : decide ((1000 : Int) < (n : Int) + 1) = false := by simp; omega
      go_wp2
      go_ret
      rw [← HRES.out]
      exact LevQ.of_bad ⟨HR10.out, HG10.out⟩
  | ok a k2 =>
    have hna := hval a k2 rfl
    subst hna
    have HR9 : Hid (Rq E lv b w9 nv nm (.ok k2)) := Lib.hid HT.out.1
    have HG9 := HGT
    obtain ⟨_, c0, c1, c2, c3, c4, c5⟩ := HR9.out.at
    clear hval
    have HRES2 : Hid ((clM E (n + 1) k2).bind (fun n k' => capM k n k') = res) := Lib.hid HRES.out
    by_cases hk2 : kindAt E.l k2 = 2
    · have HC0 : Hid (clM E (n + 1) k2 = .ok (n + 1) (k2 + 1)) := Lib.hid (by unfold clM; rw [if_pos hk2])
      go_wp2_with fail
      refine (qwant_ok 2 (by decide) hk2 HR9.out).mono ?_
      rintro e w10 ⟨rfl, ht⟩
      have HR10 := Lib.hid ht.1
      have HG10 := Lib.hid (grown_trans HG9.out ht.2)
      clear ht c0 c1 c2 c3 c4 c5
      obtain ⟨_, c0, c1, c2, c3, c4, c5⟩ := HR10.out.at
      by_cases hc : 1000 < (n + 1)
      · have hgt : decide ((1000 : Int) < (((n + 1) : Nat) : Int)) = true := by simp; omega
        simp only [Int.natCast_add, Int.natCast_one] at hgt
        have HCC : Hid (capM k (n + 1) (k2 + 1) = .bad k) := Lib.hid (by unfold capM; rw [if_pos hc])
        go_wp2_with fail
        refine (qfail_ok k HR10.out).mono ?_
        rintro e w11 ⟨rfl, ht⟩
        have HR11 := Lib.hid ht.1
        have HG11 := Lib.hid (grown_trans HG10.out ht.2)
        clear ht c0 c1 c2 c3 c4 c5
        obtain ⟨kk11, h0, h1, _, c0, c1, c2, c5⟩ := HR11.out.at'
        have hq0 : (0 : Int) ≤ (k : Int) := by omega
        clear h0 h1
        go_wp2
        go_ret
        rw [← HRES2.out, HC0.out, RR.bind_ok, HCC.out]
        exact LevQ.of_bad ⟨HR11.out, HG11.out⟩
      · have hgt : decide ((1000 : Int) < (((n + 1) : Nat) : Int)) = false := by simp; omega
        simp only [Int.natCast_add, Int.natCast_one] at hgt
        have HCC : Hid (capM k (n + 1) (k2 + 1) = .ok (n + 1) (k2 + 1)) := Lib.hid (by unfold capM; rw [if_neg hc])
        go_wp2
        go_ret
        rw [← HRES2.out, HC0.out, RR.bind_ok, HCC.out]
        exact LevQ.of_ok (n := (n + 1)) ⟨HR10.out, HG10.out⟩ (by omega)
    · have HC0 : Hid (clM E (n + 1) k2 = .bad k2) := Lib.hid (by unfold clM; rw [if_neg hk2])
      go_wp2_with fail
      refine (qwant_miss 2 hk2 HR9.out).mono ?_
      rintro e w10 ⟨rfl, ht⟩
      have HR10 := Lib.hid ht.1
      have HG10 := Lib.hid (grown_trans HG9.out ht.2)
      clear ht c0 c1 c2 c3 c4 c5
      obtain ⟨kk10, h0, h1, _, c0, c1, c2, c5⟩ := HR10.out.at'
      have hng : (0 : Int) ≤ (k2 : Int) := by omega
      clear h0 h1
      by_cases hc : 1000 < (n + 1)
      · have hgt : decide ((1000 : Int) < (((n + 1) : Nat) : Int)) = true := by simp; omega
        simp only [Int.natCast_add, Int.natCast_one] at hgt
        go_wp2_with fail
        refine (qfail_bad _ HR10.out).mono ?_
        rintro e w11 ⟨rfl, rfl⟩
        go_wp2
        go_ret
        rw [← HRES2.out, HC0.out]
        exact LevQ.of_bad ⟨HR10.out, HG10.out⟩
      · have hgt : decide ((1000 : Int) < (((n + 1) : Nat) : Int)) = false := by simp; omega
        simp only [Int.natCast_add, Int.natCast_one] at hgt
        go_wp2
        go_ret
        rw [← HRES2.out, HC0.out]
        exact LevQ.of_bad ⟨HR10.out, HG10.out⟩

set_option maxHeartbeats 2000000 in
set_option maxRecDepth 100000 in
/-- Level, at max -/
theorem qlevel_max {k : Nat} (f : Nat) (ih : LevelQC E lv b f) (hf : E.l.length < k + 2 + f) (hk : kindAt E.l k = 1) (hk1 : kindAt E.l (k + 1) = 3) (hx : textAt E.l (k + 1) = wMax) (h : Rq E lv b w nv nm (.ok k)) :
    Calls Tryd.prog 53 #[.pointer (some ⟨b, 0, none⟩)] w (LevQ E lv b w nv nm (((levelM E f (k + 2)).bind fun n k' => (levelM E f k').bind fun m k'' => clM E (max n m) k'').bind fun n k' => capM k n k')) := by
  unfold wMax at hx
  have hlt1 := kindAt_lt (l := E.l) (k := k + 1) (by omega)
  have HMV := Lib.hid (levelM_moves E f (k + 2) hlt1)
  have HK1 := Lib.hid hk1
  have HX := Lib.hid hx
  have IH := Lib.hid ih
  generalize hr : levelM E f (k + 2) = r at HMV
  generalize hres : (r.bind fun n k' => (levelM E f k').bind fun m k'' => clM E (max n m) k'').bind (fun n k' => capM k n k') = res
  have HRES := Lib.hid hres
  have HRR0 := Lib.hid hr
  clear hres hr ih hk1 hx
  have hlt := kindAt_lt (l := E.l) (k := k) (by omega)
  have HK := Lib.hid hk
  clear hk
  have HR0 := Lib.hid h
  have HG0 := Lib.hid (grown_refl w (some b))
  have HL := Lib.hid h.len
  have hl := HL.out
  have HLV := Lib.hid h.lev
  obtain ⟨_, c0, c1, c2, c3, c4, c5⟩ := h.at
  clear h
  go_enter Tryd.func53, Tryd.ntmps53
  go_wp2_with fail
  refine (qkindT HR0.out).mono ?_
  rintro e w1 ⟨rfl, ht⟩
  have HR1 := Lib.hid ht.1
  have HG1 := Lib.hid (grown_trans HG0.out ht.2)
  clear ht c0 c1 c2 c3 c4 c5
  obtain ⟨_, c0, c1, c2, c3, c4, c5⟩ := HR1.out.at
  rw [HK.out]
  go_wp2_with fail
  refine (qkindT HR1.out).mono ?_
  rintro e w2 ⟨rfl, ht⟩
  have HR2 := Lib.hid ht.1
  have HG2 := Lib.hid (grown_trans HG1.out ht.2)
  clear ht c0 c1 c2 c3 c4 c5
  obtain ⟨_, c0, c1, c2, c3, c4, c5⟩ := HR2.out.at
  rw [HK.out]
  go_wp2_with fail
  refine (qkindT HR2.out).mono ?_
  rintro e w3 ⟨rfl, ht⟩
  have HR3 := Lib.hid ht.1
  have HG3 := Lib.hid (grown_trans HG2.out ht.2)
  clear ht c0 c1 c2 c3 c4 c5
  obtain ⟨_, c0, c1, c2, c3, c4, c5⟩ := HR3.out.at
  rw [HK.out]
  go_wp2_with fail
  refine (qkindT HR3.out).mono ?_
  rintro e w4 ⟨rfl, ht⟩
  have HR4 := Lib.hid ht.1
  have HG4 := Lib.hid (grown_trans HG3.out ht.2)
  clear ht c0 c1 c2 c3 c4 c5
  obtain ⟨_, c0, c1, c2, c3, c4, c5⟩ := HR4.out.at
  rw [HK.out]
  have f1 := HR4.out.fz 1
  have hb1 := HR4.out.lt
  have HR5 := Lib.hid (HR4.out.step (k + 1) hlt)
  have HG5 := Lib.hid (grown_set HG4.out 1 (.int .i64 ((k + 1 : Nat) : Int)))
  go_wp2_with fail
  refine (qwordT HR5.out).mono ?_
  rintro e w6 ⟨rfl, ht⟩
  have HR6 := Lib.hid ht.1
  have HG6 := Lib.hid (grown_trans HG5.out ht.2)
  clear ht c0 c1 c2 c3 c4 c5 f1 hb1
  obtain ⟨_, c0, c1, c2, c3, c4, c5⟩ := HR6.out.at
  rw [HX.out]
  go_wp2_with fail
  refine (qkindT HR6.out).mono ?_
  rintro e w7 ⟨rfl, ht⟩
  have HR7 := Lib.hid ht.1
  have HG7 := Lib.hid (grown_trans HG6.out ht.2)
  clear ht c0 c1 c2 c3 c4 c5
  obtain ⟨_, c0, c1, c2, c3, c4, c5⟩ := HR7.out.at
  rw [HK1.out]
  have f1 := HR7.out.fz 1
  have hb1 := HR7.out.lt
  have HR8 := Lib.hid (HR7.out.step (k + 2) hlt1)
  have HG8 := Lib.hid (grown_set HG7.out 1 (.int .i64 ((k + 2 : Nat) : Int)))
  go_wp2_with fail
  refine (IH.out _ nm _ _ HR8.out (by omega)).mono ?_
  rintro e w9 ⟨n, rfl, ht, hval, hnn⟩
  rw [HRR0.out] at ht hval
  have HT := Lib.hid ht
  have HGT := Lib.hid (grown_trans HG8.out ht.2)
  clear c0 c1 c2 c3 c4 c5 f1 hb1 ht
  cases r with
  | bad q =>
    have HR9 : Hid (Rq E lv b w9 nv nm (.bad q)) := Lib.hid HT.out.1
    have HG9 := HGT
    obtain ⟨kk9, h0, h1, _, c0, c1, c2, c5⟩ := HR9.out.at'
    have hng : (0 : Int) ≤ (q : Int) := by omega
    clear h0 h1 hval
    go_wp2_with fail
    refine (qlevel_bad HR9.out).mono ?_
    rintro e w10 ⟨m, rfl, ht, _, hm1⟩
    have HR10 : Hid (Rq E lv b w10 nv nm (.bad q)) := Lib.hid ht.1
    have HG10 := Lib.hid (grown_trans HG9.out ht.2)
    clear ht c0 c1 c2 c5
    obtain ⟨kk10, h0, h1, _, c0, c1, c2, c5⟩ := HR10.out.at'
    clear h0 h1
    have hmx : max (n : Int) (m : Int) = ((max n m : Nat) : Int) := by omega
    have hmn : max n m ≤ 1000 := by omega
    generalize max n m = z at hmx hmn
    have hgt : decide ((1000 : Int) < (z : Int)) = false := by simp; omega
    go_wp2_with fail
    refine (qwant_bad 2 HR10.out).mono ?_
    rintro e w11 ⟨rfl, ht⟩
    have HR11 := Lib.hid ht.1
    have HG11 := Lib.hid (grown_trans HG10.out ht.2)
    clear ht c0 c1 c2 c5
    obtain ⟨kk11, h0, h1, _, c0, c1, c2, c5⟩ := HR11.out.at'
    clear h0 h1
    go_wp2
    go_ret
    rw [← HRES.out]
    exact LevQ.of_bad ⟨HR11.out, HG11.out⟩
  | ok a k1 =>
    have hna := hval a k1 rfl
    subst hna
    have HR9 : Hid (Rq E lv b w9 nv nm (.ok k1)) := Lib.hid HT.out.1
    have HG9 := HGT
    obtain ⟨_, c0, c1, c2, c3, c4, c5⟩ := HR9.out.at
    clear hval
    have hmv := HMV.out
    simp only [Moves] at hmv
    have HRES1 : Hid (((levelM E f k1).bind fun m k'' => clM E (max n m) k'').bind (fun n k' => capM k n k') = res) := Lib.hid HRES.out
    generalize hr2 : levelM E f k1 = r2 at HRES1
    have HR2' := Lib.hid hr2
    clear hr2
    go_wp2_with fail
    refine (IH.out _ nm _ _ HR9.out (by omega)).mono ?_
    rintro e w10 ⟨m, rfl, ht, hval, hnm⟩
    rw [HR2'.out] at ht hval
    have HT2 := Lib.hid ht
    have HGT2 := Lib.hid (grown_trans HG9.out ht.2)
    clear c0 c1 c2 c3 c4 c5 ht
    have hmx : max (n : Int) (m : Int) = ((max n m : Nat) : Int) := by omega
    have hmn : max n m ≤ 1000 := by omega
    cases r2 with
    | bad q =>
      generalize max n m = z at hmx hmn
      have hgt : decide ((1000 : Int) < (z : Int)) = false := by simp; omega
      have HR10 : Hid (Rq E lv b w10 nv nm (.bad q)) := Lib.hid HT2.out.1
      have HG10 := HGT2
      obtain ⟨kk10, h0, h1, _, c0, c1, c2, c5⟩ := HR10.out.at'
      have hng : (0 : Int) ≤ (q : Int) := by omega
      clear h0 h1 hval
      go_wp2_with fail
      refine (qwant_bad 2 HR10.out).mono ?_
      rintro e w11 ⟨rfl, ht⟩
      have HR11 := Lib.hid ht.1
      have HG11 := Lib.hid (grown_trans HG10.out ht.2)
      clear ht c0 c1 c2 c5
      obtain ⟨kk11, h0, h1, _, c0, c1, c2, c5⟩ := HR11.out.at'
      clear h0 h1
      go_wp2
      go_ret
      rw [← HRES1.out]
      exact LevQ.of_bad ⟨HR11.out, HG11.out⟩
    | ok a2 k2 =>
      have hna := hval a2 k2 rfl
      subst hna
      have HR10 : Hid (Rq E lv b w10 nv nm (.ok k2)) := Lib.hid HT2.out.1
      have HG10 := HGT2
      obtain ⟨_, c0, c1, c2, c3, c4, c5⟩ := HR10.out.at
      clear hval
      have HRES2 : Hid ((clM E (max n m) k2).bind (fun n k' => capM k n k') = res) := Lib.hid HRES1.out
      generalize max n m = z at hmx hmn HRES2
      by_cases hk2 : kindAt E.l k2 = 2
      · have HC0 : Hid (clM E z k2 = .ok z (k2 + 1)) := Lib.hid (by unfold clM; rw [if_pos hk2])
        go_wp2_with fail
        refine (qwant_ok 2 (by decide) hk2 HR10.out).mono ?_
        rintro e w11 ⟨rfl, ht⟩
        have HR11 := Lib.hid ht.1
        have HG11 := Lib.hid (grown_trans HG10.out ht.2)
        clear ht c0 c1 c2 c3 c4 c5
        obtain ⟨_, c0, c1, c2, c3, c4, c5⟩ := HR11.out.at
        by_cases hc : 1000 < z
        · exact absurd hc (by omega)
        · have hgt : decide ((1000 : Int) < ((z : Nat) : Int)) = false := by simp; omega
          skip
          have HCC : Hid (capM k z (k2 + 1) = .ok z (k2 + 1)) := Lib.hid (by unfold capM; rw [if_neg hc])
          go_wp2
          go_ret
          rw [← HRES2.out, HC0.out, RR.bind_ok, HCC.out]
          exact LevQ.of_ok (n := z) ⟨HR11.out, HG11.out⟩ (by omega)
      · have HC0 : Hid (clM E z k2 = .bad k2) := Lib.hid (by unfold clM; rw [if_neg hk2])
        go_wp2_with fail
        refine (qwant_miss 2 hk2 HR10.out).mono ?_
        rintro e w11 ⟨rfl, ht⟩
        have HR11 := Lib.hid ht.1
        have HG11 := Lib.hid (grown_trans HG10.out ht.2)
        clear ht c0 c1 c2 c3 c4 c5
        obtain ⟨kk11, h0, h1, _, c0, c1, c2, c5⟩ := HR11.out.at'
        have hng : (0 : Int) ≤ (k2 : Int) := by omega
        clear h0 h1
        by_cases hc : 1000 < z
        · exact absurd hc (by omega)
        · have hgt : decide ((1000 : Int) < ((z : Nat) : Int)) = false := by simp; omega
          skip
          go_wp2
          go_ret
          rw [← HRES2.out, HC0.out]
          exact LevQ.of_bad ⟨HR11.out, HG11.out⟩
end

theorem qlevel_any {E : REnv} {lv : Value} {b : Nat} : ∀ f, LevelQC E lv b f
  | 0 => fun nv nm k w h hf => absurd hf (by have := h.le; omega)
  | f + 1 => fun nv nm k w h hf => by
    have ih := qlevel_any (E := E) (lv := lv) (b := b) f
    by_cases h4 : kindAt E.l k = 4
    · rw [levelM, if_pos h4]; exact qlevel_num h4 h
    by_cases hi : kindAt E.l k = 3 ∧ textAt E.l k = wI
    · rw [levelM, if_neg h4, if_pos hi]; exact qlevel_i hi.1 hi.2 h
    by_cases hj : kindAt E.l k = 3 ∧ textAt E.l k = wJ
    · rw [levelM, if_neg h4, if_neg hi, if_pos hj]; exact qlevel_j hj.1 hj.2 h
    by_cases h1 : kindAt E.l k = 1
    · rw [levelM_open f k h1]
      unfold madeM
      by_cases hs : kindAt E.l (k + 1) = 3 ∧ textAt E.l (k + 1) = wSuc
      · rw [if_pos hs]; exact qlevel_suc f ih (by omega) h1 hs.1 hs.2 h
      · rw [if_neg hs]
        by_cases hm : kindAt E.l (k + 1) = 3 ∧ textAt E.l (k + 1) = wMax
        · rw [if_pos hm]; exact qlevel_max f ih (by omega) h1 hm.1 hm.2 h
        · rw [if_neg hm]; exact qlevel_word h1 (fun h x => hs ⟨h, x⟩) (fun h x => hm ⟨h, x⟩) h
    · rw [levelM_else f k h4 h1 (fun h x => hi ⟨h, x⟩) (fun h x => hj ⟨h, x⟩)]
      exact qlevel_else h4 h1 (fun h x => hi ⟨h, x⟩) (fun h x => hj ⟨h, x⟩) h

theorem qlev_m {E : REnv} {lv : Value} {b : Nat} {w : World} {nv : Value} {nm : List (List UInt8)} {m : Md} (h : Rq E lv b w nv nm m) : Calls Tryd.prog 53 #[.pointer (some ⟨b, 0, none⟩)] w (LevQ E lv b w nv nm (m.go (levM E))) := by
  cases m with
  | bad q => exact qlevel_bad h
  | ok k => exact qlevel_any (E.l.length + 1) nv nm k w h (by omega)
end Go.Proofs.YtfklmcmoackepaaDoor

namespace Go.Proofs.YtfklmcmoackepaaDoor
open Go.RowKit

/-- append at a step of a region that draws its order -/
theorem step_append_has {P : Program} {w : World} {ops : Array Oper} {o : Oper} {a : Act} {K : Act → World → Prop} {Q : Exit → Act → World → Prop} {X : Prop} (hgd : o.guard = none) (s x : Operand) (t : TypeId)
    (ho : o.op = .call { callee := .builtin .append, args := #[s, x], argTypes := #[t, t] })
    (base : Nat) (e : TypeId) (i : TypeInfo) (z : Value) (size bytes : Nat) (ht : P.underlying t = some (.slice e)) (hi : P.info? e = some i) (hz : i.zero = some z)
    (hsize : i.size = size) (hby : i.bytes = bytes) (hzs : z.cells.size = size) (hsz : 0 < size)
    (v : Value) (n : Nat) (xs : List Value) (hs : a.eval s = v) (hown : w.ownsRow base e size v n xs)
    (sv : Value) (m : Nat) (news : List Value) (hx : a.eval x = sv) (hhas : Has w size sv m news) (h1 : ∀ u ∈ news, u.oneCell' = true)
    (h63 : n + m ≤ maxLen) (hbytes : (n + m) * bytes ≤ 140737488355328) (hbase : base ≤ w.heap.size)
    (h : ∀ v' w', w'.ownsRow base e size v' (n + m) (xs ++ news) → w.grownBy w' v.ownBlock → K (a.put o.dst v') w') : if Region.wanted o (yielded ops a.tmps) = true then Oper.wp P o a w K Q else X := by
  rw [if_pos (by simp [Region.wanted, hgd])]
  obtain ⟨v', w', hr, h2, h3, h4⟩ := run_append_has (P := P) (w := w) base t o.type e i z size bytes ht hi hz hsize hby hzs hsz v n xs hown sv m news hhas h1 h63 hbytes hbase
  unfold Oper.wp execOp
  simp only [ho, resolve, invoke, builtin, Sem.run_bind, Sem.run_pure, Result.andThen_ok, List.map_toArray, List.map_cons, List.map_nil, hs, hx, hr]
  exact h v' w' h2 h3

section
variable {E : REnv} {lv : Value} {b : Nat} {w : World} {nv : Value} {nm : List (List UInt8)}

/-- the reader's names turn: their slice lies in a block that is new -/
def NamedQ (E : REnv) (lv : Value) (b : Nat) (w : World) (nm : List (List UInt8)) (m : Md) (w' : World) : Prop := ∃ nv', Rq E lv b w' nv' nm m ∧ w.grownBy w' (some b) ∧ ∀ x, nv'.ownBlock = some x → w.heap.size ≤ x
/-- the names' slice, in either mode -/
theorem Rq.names' {m : Md} (h : Rq E lv b w nv nm m) : Has w 1 nv nm.length (textRow nm) ∧ w.cell? ⟨b, 5, none⟩ = some nv ∧ ∃ a c, nv = .slice a nm.length c ∧ nm.length ≤ c :=
  ⟨h.hasN, h.cell5, h.cap⟩
theorem Rq.renamed {m : Md} (h : Rq E lv b w nv nm m) {w2 : World} (hb : Below w.heap.size w w2) {nv' : Value} {nm' : List (List UInt8)} (hN : Has w2 1 nv' nm'.length (textRow nm')) (hf : ∀ x, nv'.ownBlock = some x → w.heap.size ≤ x) (hcp : CapOK nv' nm'.length) (hl : nm'.length ≤ 8796093022208) : NamedQ E lv b w nm' m (w2.setCell ⟨b, 5, none⟩ nv') := by
  obtain ⟨kk, bad, hc, hm⟩ := h.cells
  have hc2 : w2.heap[b]? = some (.cells (rqCells lv kk bad E.i E.j nv) 60 (0, 0)) := by rw [hb.block b h.lt]; exact hc
  have g : w.grownBy (w2.setCell ⟨b, 5, none⟩ nv') (some b) := grown_set (grown_below hb) 5 _
  have hf' : nv'.ownBlock ≠ some b := fun he => by have := hf b he; have := h.lt; omega
  exact ⟨nv', h.laid g (set1_at hc2 5 _) hm (hN.grown (grown_set (grown_refl _ _) 5 _) hf') hf' hcp hl, g, hf⟩

set_option maxHeartbeats 2000000 in
set_option maxRecDepth 100000 in
theorem qpush_any {m : Md} (h : Rq E lv b w nv nm m) {v : Value} {names : List (List UInt8)} (hv : Has w 1 v names.length (textRow names)) (hl : nm.length + names.length ≤ 8796093022208) :
    Calls Tryd.prog 24 #[.pointer (some ⟨b, 0, none⟩), v] w fun e w' => e = .returned (.tuple #[]) ∧ NamedQ E lv b w (nm ++ names) m w' := by
  obtain ⟨hN, c5, an, cn, rfl, hcn⟩ := h.names'
  have H0 := Lib.hid h
  have HN := Lib.hid hN
  have HV := Lib.hid hv
  have hbl := h.lt
  have f5 := h.fz 5
  obtain ⟨i1, hi, hi0, hi1, hi2⟩ := info_parts Tryd.infoStr
  have HI := Lib.hid (And.intro hi (And.intro hi0 (And.intro hi1 hi2)))
  clear h hN hv
  go_enter Tryd.func24, Tryd.ntmps24
  go_wp2_with (at_builtin; go_must (refine wpList_append_has rfl (.tmp 5) (.tmp 9) 42 rfl w.heap.size 9 i1 _ 1 16 Tryd.underlying42 hi hi0 hi1 hi2 rfl (by decide) (.slice (some ⟨w.heap.size, 0, none⟩) 0 0) 0 [] rfl ?own (.slice an nm.length cn) nm.length (textRow nm) rfl ?has ?one ?c3 ?c4 ?c5 ?_))
  case own => exact World.ownsRow_lit (base := w.heap.size) w #[] 0 (Nat.le_refl _) (Nat.zero_le _) rfl
  case has => exact HN.out.below (below_alloc _ _)
  case one => intro u hu; simp only [textRow, List.mem_map] at hu; obtain ⟨x, _, rfl⟩ := hu; rfl
  case c3 => unfold maxLen; omega
  case c4 => omega
  case c5 => simp
  intro va w2 hown2 hgrow2
  have HO2 : Hid (w2.ownsRow w.heap.size 9 1 va nm.length (textRow nm)) := Lib.hid (by simpa using hown2)
  have HB2 : Hid (Below w.heap.size w w2) := Lib.hid ((below_alloc w (.cells #[] 9)).grown hgrow2 (by simp) (fun g hg => by simp only [Value.ownBlock, Option.some.injEq] at hg; omega))
  have HV2 := Lib.hid (HV.out.below HB2.out)
  clear hown2 hgrow2
  obtain ⟨hi, hi0, hi1, hi2⟩ := HI.out
  go_wp2_with (at_builtin; go_must (refine wpList_append_has rfl (.tmp 10) (.tmp 11) 42 rfl w.heap.size 9 i1 _ 1 16 Tryd.underlying42 hi hi0 hi1 hi2 rfl (by decide) va nm.length (textRow nm) rfl ?own v names.length (textRow names) rfl ?has ?one ?c3 ?c4 ?c5 ?_))
  case own => exact HO2.out
  case has => exact HV2.out
  case one => intro u hu; simp only [textRow, List.mem_map] at hu; obtain ⟨x, _, rfl⟩ := hu; rfl
  case c3 => unfold maxLen; omega
  case c4 => omega
  case c5 => exact HB2.out.size
  intro vn w3 hown3 hgrow3
  have HB3 : Hid (Below w.heap.size w w3) := Lib.hid (HB2.out.grown hgrow3 HB2.out.size (fun g hg => (HO2.out.lt g hg).1))
  have HT := Lib.hid (H0.out.renamed (nv' := vn) (nm' := nm ++ names) HB3.out (by rw [textRow_append, List.length_append]; exact Has.of_owns hown3) (fun x hx => (hown3.lt x hx).1) (by rw [List.length_append]; exact capOK_own hown3) (by simpa using hl))
  obtain ⟨an3, cn3, rfl⟩ := own_form hown3
  have d5 : w3.cell? ⟨b, 5, none⟩ = some (.slice an nm.length cn) := (HB3.out.cell (p := ⟨b, 5, none⟩) hbl).trans c5
  have g5 : w3.frozen? ⟨b, 5, none⟩ = false := (H0.out.kept HB3.out).fz 5
  have hb3 : b < w3.heap.size := Nat.lt_of_lt_of_le hbl HB3.out.size
  clear hown3 hgrow3 hi hi0 hi1 hi2
  go_wp2
  exact post_end0 rfl rfl ⟨rfl, HT.out⟩

set_option maxHeartbeats 4000000 in
set_option maxRecDepth 100000 in
theorem qpop_any {m : Md} {names : List (List UInt8)} (h : Rq E lv b w nv (nm ++ names) m) :
    Calls Tryd.prog 54 #[.pointer (some ⟨b, 0, none⟩), .int .i64 names.length] w fun e w' => e = .returned (.tuple #[]) ∧ NamedQ E lv b w nm m w' := by
  obtain ⟨hN, c5, an, cn, rfl, hcn⟩ := h.names'
  have H0 := Lib.hid h
  have HN := Lib.hid hN
  have hbl := h.lt
  have f5 := h.fz 5
  have hnl := h.names
  have hl1 : nm.length ≤ (nm ++ names).length := by simp
  have hlen : (((nm ++ names).length : Nat) : Int) - (names.length : Int) = (nm.length : Int) := by simp
  have hlc : nm.length ≤ cn := by omega
  have HNP : Hid (Has w 1 (.slice an nm.length cn) nm.length (textRow nm)) := Lib.hid (by
    refine ⟨by simp [textRow], ?_⟩
    rcases hN.2 with ⟨h1, h0⟩ | ⟨bt, o, c, h1, hn, hb, hcl⟩
    · simp only [List.length_append] at h0
      have hz : nm.length = 0 := by omega
      simp only [Value.slice.injEq] at h1
      obtain ⟨rfl, h2, rfl⟩ := h1
      exact .inl ⟨by rw [hz], hz⟩
    · simp only [Value.slice.injEq] at h1
      obtain ⟨rfl, _, rfl⟩ := h1
      refine .inr ⟨bt, o, cn, rfl, by unfold maxLen; omega, hb, fun j hj => ?_⟩
      rw [hcl j (by simp only [List.length_append]; omega), textRow_append, List.getElem?_append_left (by simpa [textRow] using hj)])
  obtain ⟨i1, hi, hi0, hi1, hi2⟩ := info_parts Tryd.infoStr
  have hform : (an = none ∧ (nm ++ names).length = 0 ∧ cn = 0) ∨ ∃ bt o, an = some ⟨bt, o, none⟩ := by
    rcases hN.2 with ⟨h1, h0⟩ | ⟨bt, o, c, h1, hn, hb, hcl⟩
    · simp only [Value.slice.injEq] at h1
      exact .inl ⟨h1.1, h0, h1.2.2⟩
    · simp only [Value.slice.injEq] at h1
      exact .inr ⟨bt, o, h1.1⟩
  have hlI : ((nm.length : Nat) : Int) ≤ (cn : Int) := by omega
  have hw0 : IntKind.i64.wrap 0 = 0 := IntWalk.i64_in _ (by omega)
  have hwn : IntKind.i64.wrap ((nm.length : Nat) : Int) = ((nm.length : Nat) : Int) := IntWalk.i64_in _ (by omega)
  have HOWN : Hid ((w.alloc (.cells #[] 9)).drew.ownsRow w.heap.size 9 1 (.slice (some ⟨w.heap.size, 0, none⟩) 0 0) 0 []) := Lib.hid ((World.ownsRow_lit (base := w.heap.size) w #[] 0 (Nat.le_refl _) (Nat.zero_le _) rfl).drew)
  have HB1 : Hid (Below w.heap.size w (w.alloc (.cells #[] 9)).drew) := Lib.hid ((below_alloc w (.cells #[] 9)).drew)
  have HN1 := Lib.hid (HNP.out.below HB1.out)
  have hnn := H0.out.names
  clear h hN
  rcases hform with ⟨rfl, ht0, rfl⟩ | ⟨bt, o, rfl⟩
  · have hz : nm = [] := List.eq_nil_of_length_eq_zero (by omega)
    have hz2 : names = [] := List.eq_nil_of_length_eq_zero (by simp only [List.length_append] at ht0; omega)
    subst hz
    subst hz2
    have c5' : w.cell? ⟨b, 5, none⟩ = some (.slice none 0 0) := c5
    go_enter Tryd.func54, Tryd.ntmps54
    go_wp2_with fail
    go_region_law (first
      | (refine step_append_has (by rfl) _ _ _ (by rfl) w.heap.size 9 i1 _ 1 16 Tryd.underlying42 hi hi0 hi1 hi2 rfl (by decide) (.slice (some ⟨w.heap.size, 0, none⟩) 0 0) 0 [] (by rfl) HOWN.out (.slice none 0 0) 0 [] (by rfl) (Has.nil _ _) (by simp) (by decide) (by decide) HB1.out.size ?_
         intro va w2 hown2 hgrow2
         obtain ⟨an3, cn3, rfl⟩ := own_form hown2
         have HB2 : Hid (Below w.heap.size w w2) := Lib.hid (HB1.out.grown hgrow2 HB1.out.size (fun g hg => by simp only [Value.ownBlock, Option.some.injEq] at hg; omega))
         have d5 : w2.cell? ⟨b, 5, none⟩ = some (.slice none 0 0) := (HB2.out.cell (p := ⟨b, 5, none⟩) hbl).trans c5'
         have g5 : w2.frozen? ⟨b, 5, none⟩ = false := (H0.out.kept HB2.out).fz 5
         have hb3 : b < w2.heap.size := Nat.lt_of_lt_of_le hbl HB2.out.size
         have HT := Lib.hid (H0.out.renamed (nv' := .slice an3 0 cn3) (nm' := []) HB2.out (Has.of_owns (by simpa [textRow] using hown2)) (fun x hx => (hown2.lt x hx).1) (capOK_own hown2) (by simp)))
      | (trace_state; fail))
    all_goals
      go_wp2
      exact post_end0 rfl rfl ⟨rfl, HT.out⟩
  · generalize (nm ++ names).length = tot at *
    go_enter Tryd.func54, Tryd.ntmps54
    go_wp2_with fail
    go_region_law (first
      | (refine step_append_has (by rfl) _ _ _ (by rfl) w.heap.size 9 i1 _ 1 16 Tryd.underlying42 hi hi0 hi1 hi2 rfl (by decide) (.slice (some ⟨w.heap.size, 0, none⟩) 0 0) 0 [] (by rfl) HOWN.out (.slice (some ⟨bt, o, none⟩) nm.length cn) nm.length (textRow nm) (by rfl) HN1.out (by intro u hu; simp only [textRow, List.mem_map] at hu; obtain ⟨x, _, rfl⟩ := hu; rfl) (by unfold maxLen; omega) (by omega) HB1.out.size ?_
         intro va w2 hown2 hgrow2
         obtain ⟨an3, cn3, rfl⟩ := own_form hown2
         have HB2 : Hid (Below w.heap.size w w2) := Lib.hid (HB1.out.grown hgrow2 HB1.out.size (fun g hg => by simp only [Value.ownBlock, Option.some.injEq] at hg; omega))
         have d5 : w2.cell? ⟨b, 5, none⟩ = some (.slice (some ⟨bt, o, none⟩) tot cn) := (HB2.out.cell (p := ⟨b, 5, none⟩) hbl).trans c5
         have g5 : w2.frozen? ⟨b, 5, none⟩ = false := (H0.out.kept HB2.out).fz 5
         have hb3 : b < w2.heap.size := Nat.lt_of_lt_of_le hbl HB2.out.size
         have HT := Lib.hid (H0.out.renamed (nv' := .slice an3 (0 + nm.length) cn3) (nm' := nm) HB2.out (Has.of_owns (by simpa using hown2)) (fun x hx => (hown2.lt x hx).1) (by have := capOK_own hown2; simpa using this) (by omega)))
      | (trace_state; fail))
    all_goals
      go_wp2
      have ht := HT.out
      rw [Nat.zero_add] at ht
      exact post_end0 rfl rfl ⟨rfl, ht⟩
end
end Go.Proofs.YtfklmcmoackepaaDoor
