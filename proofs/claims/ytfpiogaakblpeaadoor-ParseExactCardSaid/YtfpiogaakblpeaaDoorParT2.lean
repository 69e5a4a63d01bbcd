/- Walks of budget.Within, and of the parser's reader: is, stop, take. Walk of the parser's take. -/
import Derived.Test.YtfpiogaakblpeaaDoorParM
import Derived.Test.YtfpiogaakblpeaaDoorLexP
import Derived.Test.YtfpiogaakblpeaaDoorRight
namespace Go.Proofs.YtfpiogaakblpeaaDoor
open Go.RowKit

def rdCells (lv : Value) (k en n : Int) (df wf : Nat) : Array Value := #[lv, .int .i64 k, .int .i64 en, .int .i64 n, .float .f64 df, .float .f64 wf]
/-- the reader in block b: the tokens, the next one, the end, the nodes begun, the allowances -/
structure Rd (w : World) (b : Nat) (toks : List Tok) (lv : Value) (k en n : Int) (df wf : Nat) : Prop where
  cells : w.heap[b]? = some (.cells (rdCells lv k en n df wf) 76 (0, 0))
  has : Has w 3 lv toks.length (toksCells toks)
  far : lv.ownBlock ≠ some b

/-- budget.Within -/
def withinB (n : Int) (f : Nat) : Bool := FloatKind.f64.format.order (floatOfInt FloatKind.f64 n) f == some Ordering.lt || FloatKind.f64.format.order (floatOfInt FloatKind.f64 n) f == some Ordering.eq
set_option maxHeartbeats 1000000 in
theorem within_any (n : Int) (f : Nat) (w : World) : Calls Tryd.prog 73 #[.int .i64 n, .float .f64 f] w fun e w' => e = .returned (.bool (withinB n f)) ∧ w = w' := by
  go_enter Tryd.func73, Tryd.ntmps73
  go_wp2
  go_ret
  exact ⟨rfl, rfl⟩

theorem Rd.at {w : World} {b : Nat} {toks : List Tok} {lv : Value} {k en n : Int} {df wf : Nat} (h : Rd w b toks lv k en n df wf) :
    w.cell? ⟨b, 0, none⟩ = some lv ∧ w.cell? ⟨b, 1, none⟩ = some (.int .i64 k) ∧ w.cell? ⟨b, 2, none⟩ = some (.int .i64 en) ∧ w.cell? ⟨b, 3, none⟩ = some (.int .i64 n) ∧ w.cell? ⟨b, 4, none⟩ = some (.float .f64 df) ∧ w.cell? ⟨b, 5, none⟩ = some (.float .f64 wf) := by
  have hc : ∀ j : Nat, w.cell? ⟨b, j, none⟩ = (rdCells lv k en n df wf)[j]? := fun j => by simp [World.cell?, h.cells]
  exact ⟨hc 0, hc 1, hc 2, hc 3, hc 4, hc 5⟩
def placeT (toks : List Tok) (k : Nat) (en : Int) : Int := match toks[k]? with | some t => t.pos | none => en
def faultV (e : Int) (pl : Int) (word : ByteArray) : List PanicEntry := [{ v := .iface 71 (.agg #[.int .i64 e, .int .i64 pl, .string word]), recovered := false }]

theorem placeT_lt {toks : List Tok} {k : Nat} {en : Int} (h : k < toks.length) : placeT toks k en = toks[k].pos := by simp [placeT, h]
theorem placeT_ge {toks : List Tok} {k : Nat} {en : Int} (h : toks.length ≤ k) : placeT toks k en = en := by simp [placeT, List.getElem?_eq_none h]

set_option maxHeartbeats 1000000 in
set_option maxRecDepth 100000 in
theorem stop_any (b : Nat) (toks : List Tok) (lv : Value) (k : Nat) (q en n : Int) (df wf : Nat) (e0 : Int) (word : ByteArray) (w : World) (h : Rd w b toks lv q en n df wf) :
    Calls Tryd.prog 42 #[.pointer (some ⟨b, 0, none⟩), .int .i64 k, .int .i64 e0, .string word] w fun e w' => e = .panicked (faultV e0 (placeT toks k en) word) ∧ ∃ m, w' = w.drewN m := by
  obtain ⟨c0, c1, c2, c3, c4, c5⟩ := h.at
  rcases h.has.2 with ⟨rfl, h0⟩ | ⟨bt, o, c, rfl, hn, hb, hcells⟩
  · have hp := placeT_ge (toks := toks) (k := k) (en := en) (by omega)
    have HP := Lib.hid hp
    clear h hp h0
    go_enter Tryd.func42, Tryd.ntmps42
    go_wp2
    exact ⟨rfl, by rw [HP.out]; rfl, 0, rfl⟩
  · unfold maxLen at hn
    by_cases hlt : k < toks.length
    · have hat := toksCells_at toks k hlt
      have t0 := (hcells (k * 3) (by omega)).trans hat.1
      have t1 : w.cell? ⟨bt, o + k * 3 + 1, none⟩ = _ := (hcells (k * 3 + 1) (by omega)).trans hat.2.1
      have t2 : w.cell? ⟨bt, o + k * 3 + 2, none⟩ = _ := (hcells (k * 3 + 2) (by omega)).trans hat.2.2
      have HP := Lib.hid (placeT_lt (en := en) hlt)
      clear h hcells hat
      go_enter Tryd.func42, Tryd.ntmps42
      go_wp2
      exact ⟨rfl, by rw [HP.out]; rfl, 0, rfl⟩
    · have HP := Lib.hid (placeT_ge (toks := toks) (k := k) (en := en) (by omega))
      clear h hcells
      go_enter Tryd.func42, Tryd.ntmps42
      go_wp2
      exact ⟨rfl, by rw [HP.out]; rfl, 0, rfl⟩

set_option maxHeartbeats 1000000 in
set_option maxRecDepth 100000 in
theorem is_any (b : Nat) (toks : List Tok) (lv : Value) (k : Nat) (en n : Int) (df wf : Nat) (kind : Int) (hk0 : kind ≠ 0) (w : World) (h : Rd w b toks lv k en n df wf) :
    Calls Tryd.prog 62 #[.pointer (some ⟨b, 0, none⟩), .int .i64 kind] w fun e w' => e = .returned (.bool ((kindAt toks k : Int) == kind)) ∧ ∃ m, w' = w.drewN m := by
  obtain ⟨c0, c1, c2, c3, c4, c5⟩ := h.at
  rcases h.has.2 with ⟨rfl, h0⟩ | ⟨bt, o, c, rfl, hn, hb, hcells⟩
  · have HV : Hid (((kindAt toks k : Int) == kind) = false) := Lib.hid (by rw [kindAt_ge (by omega)]; simpa using fun h => hk0 h.symm)
    have hlt : ¬ (k : Int) < ((0 : Nat) : Int) := by omega
    have hlt2 : decide ((k : Int) < 0) = false := by simp
    clear h h0 hk0
    go_enter Tryd.func62, Tryd.ntmps62
    go_wp2
    go_quiet (fail)
    go_wp2
    go_ret
    exact ⟨by rw [HV.out]; rfl, _, rfl⟩
  · unfold maxLen at hn
    by_cases hlt : k < toks.length
    · have hat := toksCells_at toks k hlt
      have t0 := (hcells (k * 3) (by omega)).trans hat.1
      have HV : Hid (((kindAt toks k : Int) == kind) = (((toks[k].kind : Nat) : Int) == kind)) := Lib.hid (by rw [kindAt_eq hlt])
      have hd : decide (k < toks.length) = true := by simp [hlt]
      clear h hcells hat
      generalize toks[k].kind = kk at t0 HV
      go_enter Tryd.func62, Tryd.ntmps62
      go_wp2
      go_quiet (fail)
      go_wp2
      go_ret
      exact ⟨by rw [HV.out]; rfl, _, rfl⟩
    · have HV : Hid (((kindAt toks k : Int) == kind) = false) := Lib.hid (by rw [kindAt_ge (by omega)]; simpa using fun h => hk0 h.symm)
      have hd : decide (k < toks.length) = false := by simp; omega
      clear h hcells hk0
      go_enter Tryd.func62, Tryd.ntmps62
      go_wp2
      go_quiet (fail)
      go_wp2
      go_ret
      exact ⟨by rw [HV.out]; rfl, _, rfl⟩
end Go.Proofs.YtfpiogaakblpeaaDoor

namespace Go.Proofs.YtfpiogaakblpeaaDoor
open Go.RowKit

theorem new_heap (w : World) (cs : Array Value) (t : TypeId) : (w.alloc (.cells cs t)).heap[w.heap.size]? = some (.cells cs t (0, 0)) := by unfold World.alloc; simp
theorem grown_refl (w : World) (r : Option Nat) : w.grownBy w r := ⟨rfl, rfl, rfl, Nat.le_refl _, fun _ _ _ => rfl⟩
theorem grown_trans {a c d : World} {r : Option Nat} (h : a.grownBy c r) (k : c.grownBy d r) : a.grownBy d r :=
  ⟨k.os.trans h.os, k.tape.trans h.tape, k.output.trans h.output, Nat.le_trans h.size k.size, fun i hi hr => (k.block i (Nat.lt_of_lt_of_le hi h.size) hr).trans (h.block i hi hr)⟩
theorem grown_below {a c : World} {r : Option Nat} (h : Below a.heap.size a c) : a.grownBy c r := ⟨h.os, h.tape, h.output, h.size, fun i hi _ => h.block i hi⟩
theorem grown_drewN {a c : World} {r : Option Nat} (h : a.grownBy c r) (m : Nat) : a.grownBy (c.drewN m) r := ⟨h.os, h.tape, h.output, h.size, h.block⟩
theorem grown_set {a c : World} {b : Nat} (h : a.grownBy c (some b)) (j : Nat) (v : Value) : a.grownBy (c.setCell ⟨b, j, none⟩ v) (some b) :=
  grown_trans h ⟨rfl, rfl, rfl, by simp [World.setCell], fun k _ hk => Below.heap_setCell _ _ _ _ (fun e => hk (by simp [e]))⟩
theorem below_of_grown {a c : World} {b B : Nat} (h : a.grownBy c (some b)) (hB : B ≤ b) (hs : B ≤ a.heap.size) : Below B a c :=
  ⟨h.os, h.tape, h.output, h.size, fun k hk => h.block k (by omega) (by simp; omega)⟩

theorem Has.grown {w w' : World} {size : Nat} {v : Value} {n : Nat} {xs : List Value} {b : Nat} (h : Has w size v n xs) (hg : w.grownBy w' (some b)) (hne : v.ownBlock ≠ some b) : Has w' size v n xs := by
  refine ⟨h.1, ?_⟩
  rcases h.2 with h2 | ⟨g, o, c, rfl, hn, hb, hc⟩
  · exact .inl h2
  · have hgb : w'.heap[g]? = w.heap[g]? := hg.block g hb (by simpa [Value.ownBlock] using hne)
    exact .inr ⟨g, o, c, rfl, hn, Nat.lt_of_lt_of_le hb hg.size, fun j hj => by rw [← hc j hj]; simp only [World.cell?, hgb]⟩

theorem Rd.drewN {w : World} {b : Nat} {toks : List Tok} {lv : Value} {k en n : Int} {df wf : Nat} (h : Rd w b toks lv k en n df wf) (m : Nat) : Rd (w.drewN m) b toks lv k en n df wf :=
  ⟨h.cells, h.has.grown (grown_drewN (grown_refl _ (some b)) m) h.far, h.far⟩
theorem Rd.kept {w w' : World} {b : Nat} {toks : List Tok} {lv : Value} {k en n : Int} {df wf : Nat} (h : Rd w b toks lv k en n df wf) (hb : Below w.heap.size w w') : Rd w' b toks lv k en n df wf :=
  ⟨by rw [hb.block b (Array.getElem?_eq_some_iff.1 h.cells).1]; exact h.cells, h.has.grown (grown_below hb) h.far, h.far⟩
theorem Rd.set1 {w : World} {b : Nat} {toks : List Tok} {lv : Value} {k en n : Int} {df wf : Nat} (h : Rd w b toks lv k en n df wf) (k' : Int) : Rd (w.setCell ⟨b, 1, none⟩ (.int .i64 k')) b toks lv k' en n df wf :=
  ⟨by simp [World.setCell, Array.getElem?_modify, h.cells, rdCells], h.has.grown (grown_set (grown_refl _ _) 1 _) h.far, h.far⟩
theorem Rd.set3 {w : World} {b : Nat} {toks : List Tok} {lv : Value} {k en n : Int} {df wf : Nat} (h : Rd w b toks lv k en n df wf) (n' : Int) : Rd (w.setCell ⟨b, 3, none⟩ (.int .i64 n')) b toks lv k en n' df wf :=
  ⟨by simp [World.setCell, Array.getElem?_modify, h.cells, rdCells], h.has.grown (grown_set (grown_refl _ _) 3 _) h.far, h.far⟩
theorem Rd.fz {w : World} {b : Nat} {toks : List Tok} {lv : Value} {k en n : Int} {df wf : Nat} (h : Rd w b toks lv k en n df wf) (j : Nat) : w.frozen? ⟨b, j, none⟩ = false := by
  simp [World.frozen?, h.cells]
theorem Rd.lt {w : World} {b : Nat} {toks : List Tok} {lv : Value} {k en n : Int} {df wf : Nat} (h : Rd w b toks lv k en n df wf) : b < w.heap.size := (Array.getElem?_eq_some_iff.1 h.cells).1

set_option maxHeartbeats 1000000 in
set_option maxRecDepth 100000 in
theorem take_bad (b : Nat) (toks : List Tok) (lv : Value) (k : Nat) (en n : Int) (df wf : Nat) (kind : Nat) (hk0 : kind ≠ 0) (w : World) (h : Rd w b toks lv k en n df wf) (hk : kindAt toks k ≠ kind) :
    Calls Tryd.prog 61 #[.pointer (some ⟨b, 0, none⟩), .int .i64 kind] w fun e w' => e = .panicked (faultV 2 (placeT toks k en) ⟨#[]⟩) ∧ ∃ m, w' = w.drewN m := by
  have HV : Hid (((kindAt toks k : Int) == (kind : Int)) = false) := Lib.hid (by simp; omega)
  have HR := Lib.hid h
  have HK : Hid ((kind : Int) ≠ 0) := Lib.hid (by omega)
  clear h hk hk0
  go_enter Tryd.func61, Tryd.ntmps61
  go_wp2_with fail
  refine (is_any b toks lv k en n df wf kind HK.out _ HR.out).mono ?_
  rintro e w1 ⟨rfl, m, rfl⟩
  rw [HV.out]
  obtain ⟨c0, c1, c2, c3, c4, c5⟩ := (HR.out.drewN m).at
  go_wp2_with fail
  refine (stop_any b toks lv k _ en n df wf 2 _ _ (HR.out.drewN m)).mono ?_
  rintro e w2 ⟨rfl, m2, rfl⟩
  go_wp2
  exact ⟨rfl, rfl, m + m2, rfl⟩

set_option maxHeartbeats 1000000 in
set_option maxRecDepth 100000 in
theorem take_ok (b : Nat) (toks : List Tok) (lv : Value) (k : Nat) (en n : Int) (df wf : Nat) (kind : Nat) (hk0 : kind ≠ 0) (w : World) (h : Rd w b toks lv k en n df wf) (hk : kindAt toks k = kind) :
    Calls Tryd.prog 61 #[.pointer (some ⟨b, 0, none⟩), .int .i64 kind] w fun e w' => e = .returned (.string ⟨(textAt toks k).toArray⟩) ∧ Rd w' b toks lv ((k : Int) + 1) en n df wf ∧ w.grownBy w' (some b) ∧ w'.heap.size = w.heap.size := by
  have HV : Hid (((kindAt toks k : Int) == (kind : Int)) = true) := Lib.hid (by simp; omega)
  have HR := Lib.hid h
  have HK : Hid ((kind : Int) ≠ 0) := Lib.hid (by omega)
  have hlt := kindAt_lt (l := toks) (k := k) (by omega)
  have hfar := h.far
  rcases h.has.2 with ⟨rfl, h0⟩ | ⟨bt, o, c, rfl, hn, hb, hcells⟩
  · omega
  unfold maxLen at hn
  have hbt : ¬ bt = b := by simpa [Value.ownBlock] using hfar
  have hat := toksCells_at toks k hlt
  have HT : Hid (textAt toks k = toks[k].text) := Lib.hid (textAt_eq hlt)
  have t1 : w.cell? ⟨bt, o + k * 3 + 1, none⟩ = _ := (hcells (k * 3 + 1) (by omega)).trans hat.2.1
  clear h hk hk0 hfar hcells hat
  generalize toks[k].text = tx at t1 HT
  go_enter Tryd.func61, Tryd.ntmps61
  go_wp2_with fail
  refine (is_any b toks _ k en n df wf kind HK.out _ HR.out).mono ?_
  rintro e w1 ⟨rfl, m, rfl⟩
  rw [HV.out]
  obtain ⟨c0, c1, c2, c3, c4, c5⟩ := (HR.out.drewN m).at
  have f1 := (HR.out.drewN m).fz 1
  have hb1 : b < (w.drewN m).heap.size := (HR.out.drewN m).lt
  go_wp2
  go_quiet (fail)
  go_wp2
  go_ret
  refine ⟨by rw [HT.out]; rfl, ?_, ?_, ?_⟩
  · exact ((HR.out.drewN m).set1 _).drewN _
  · exact grown_drewN (grown_set (grown_drewN (grown_refl _ _) _) 1 _) _
  · simp [World.setCell]
end Go.Proofs.YtfpiogaakblpeaaDoor
