/- A region that draws its order and holds one call that writes, all else quiet. Over any program. Walks of the reference's reader: transhipref09.Reader Kind, Word, Fail, Want; Place; transhipref01.Within. The reference's parser: its two blocks; stop; deriv where it has stopped, or stops before the kids. Walk of the reference's parser: deriv, the kids, and the whole. Walk of the reference's deriv: the kids, and the whole. -/
import Derived.Test.YtfpiogaakblpeaaDoorRegion
import Derived.Test.YtfpiogaakblpeaaDoorParT2
import Derived.Test.YtfpiogaakblpeaaDoorRKids
import Derived.Test.YtfpiogaakblpeaaDoorRefGet
import Derived.Test.YtfpiogaakblpeaaDoorParN
import Derived.Test.YtfpiogaakblpeaaDoorParV
namespace Go.Proofs.YtfpiogaakblpeaaDoor
open Go.RowKit

section
variable {P : Program} {ops : Array Oper}

/-- operation n is a call that turns the world 'base ahead' into 'base behind'; all others are quiet in both -/
def CallY (P : Program) (ops : Array Oper) (n : Nat) (base : Side → World) (i : Nat) (a : Act) (v : Value) : Prop :=
  ∃ o, ops[i]? = some o ∧
    ((i = n ∧ ∀ m, Leaves P (fun w' => ∃ m', w' = (base .behind).drewN m') v ((execOp a.eval o).run P ((base .ahead).drewN m))) ∨
     (i ≠ n ∧ ∀ b m, Still P (base b) m v ((execOp a.eval o).run P ((base b).drewN m))))

theorem callY_congr (n : Nat) (base : Side → World) : Congr ops (CallY P ops n base) := by
  intro i o a a' v ho he ⟨o', ho', h⟩
  obtain rfl : o = o' := Option.some.inj (ho.symm.trans ho')
  refine ⟨o, ho, ?_⟩
  rw [he]
  exact h

theorem wp_region_callY {id : Nat} {Q : Exit → Act → World → Prop} {a : Act} {w : World} (n : Nat) (base : Side → World) (hm : P.follows .mixedOrders = true) (hB : Region.lexB .any ops = true)
    (hn : ((ops[n]?).map fun o => o.guard == none) = some true) (hw : w = base .ahead)
    (h : yLex ops (CallY P ops n base) (fun a' => ∀ m, Q .normal a' ((base .behind).drewN m)) 0 ops.toList a) : (Code.region id ops true).wp P Q a w := by
  subst hw
  have hnlt : n < ops.size := by
    cases ho : ops[n]? with
    | none => rw [ho] at hn; cases hn
    | some o => exact (Array.getElem?_eq_some_iff.1 ho).1
  refine wp_region_y (Y := CallY P ops n base) (fun listed w => ∃ m, w = (base (sideOf (listed.getD n false))).drewN m) hm hB (callY_congr n base) ⟨1, ?_⟩ ?_ ?_ ?_
  · simp [hnlt]; rfl
  · rintro i o a v listed w ho hun ⟨o', ho', hY⟩ ⟨m, rfl⟩
    obtain rfl : o = o' := Option.some.inj (ho.symm.trans ho')
    rcases hY with ⟨rfl, hY⟩ | ⟨hne, hY⟩
    · have hl : listed.getD i false = false := getD_low hun
      have hl2 : (listed.setIfInBounds i true).getD i false = true := by
        have : i < listed.size := getD_lt hun
        simp [this]
      rw [hl, show sideOf false = .ahead from rfl, hl2]
      exact hY m
    · have hl : (listed.setIfInBounds i true).getD n false = listed.getD n false := getD_set_ne false hne
      have h2 := hY (sideOf (listed.getD n false)) m
      generalize (execOp a.eval o).run P ((base (sideOf (listed.getD n false))).drewN m) = r at h2
      rw [hl]
      cases r with
      | ok x w' =>
        cases x <;> simp only [Still] at h2 <;> simp only [Leaves]
        case value u => exact ⟨⟨m, h2.1⟩, h2.2⟩
        case skip => exact ⟨⟨m, h2.1⟩, h2.2⟩
        case enter f args => exact h2.2
      | halt x w' => simp only [Still] at h2
  · rintro i o listed w ho hg ⟨m, rfl⟩
    refine ⟨m, ?_⟩
    by_cases hin : i = n
    · subst hin
      rw [ho] at hn
      simp at hn
      exact absurd (by simpa using hn) hg
    · rw [getD_set_ne false hin]
  · refine yLex_mono (fun a' h1 listed w' hl hw' => ?_) _ _ _ h
    obtain ⟨m, rfl⟩ := hw'
    rw [hl n hnlt]
    exact h1 m

theorem wp_region_callY_lit {id : Nat} {Q : Exit → Act → World → Prop} {a : Act} {w : World} {l : List Oper} (n : Nat) (base : Side → World) (hm : P.follows .mixedOrders = true) (hB : Region.lexB .any l.toArray = true)
    (hn : ((l.toArray[n]?).map fun o => o.guard == none) = some true) (hw : w = base .ahead)
    (h : yLex l.toArray (CallY P l.toArray n base) (fun a' => ∀ m, Q .normal a' ((base .behind).drewN m)) 0 l a) : (Code.region id l.toArray true).wp P Q a w :=
  wp_region_callY n base hm hB hn hw (by simpa using h)

/-- a quiet operation -/
theorem callY_still {Q : Act → Prop} {n k : Nat} {base : Side → World} {o : Oper} {rest : List Oper} {a : Act} (hne : (k == n) = false) (ho : ops[k]? = some o)
    (h : ∀ K : Act → Prop, (∀ a, yLex ops (CallY P ops n base) Q (k + 1) rest a → K a) →
      if Region.wanted o (yielded ops a.tmps) then (∃ v, (∀ b m, Still P (base b) m v ((execOp a.eval o).run P ((base b).drewN m))) ∧ K (a.put o.dst v)) else K (a.put o.dst undef)) :
    yLex ops (CallY P ops n base) Q k (o :: rest) a := by
  have h2 := h _ (fun _ h => h)
  unfold yLex
  split
  · rename_i hw
    rw [if_pos hw] at h2
    obtain ⟨v, h3, h4⟩ := h2
    exact ⟨v, ⟨o, ho, .inr ⟨by simpa using hne, h3⟩⟩, h4⟩
  · rename_i hw
    rw [if_neg hw] at h2
    exact h2

/-- the call -/
theorem callY_call {Q : Act → Prop} {n k : Nat} {base : Side → World} {o : Oper} {rest : List Oper} {a : Act} (v : Value) (hk : (k == n) = true) (ho : ops[k]? = some o) (hg : o.guard = none)
    (h1 : ∀ m, Leaves P (fun w' => ∃ m', w' = (base .behind).drewN m') v ((execOp a.eval o).run P ((base .ahead).drewN m)))
    (h : yLex ops (CallY P ops n base) Q (k + 1) rest (a.put o.dst v)) : yLex ops (CallY P ops n base) Q k (o :: rest) a := by
  unfold yLex
  rw [if_pos (by simp [Region.wanted, hg])]
  exact ⟨v, ⟨o, ho, .inl ⟨by simpa using hk, h1⟩⟩, h⟩
end
attribute [go_sem] Leaves
end Go.Proofs.YtfpiogaakblpeaaDoor

namespace Go.Proofs.YtfpiogaakblpeaaDoor
open Go.RowKit

def rbCells (lv : Value) (k bad i j : Int) (nv : Value) : Array Value := #[lv, .int .i64 k, .int .i64 bad, .int .i64 i, .int .i64 j, nv]
/-- the reference's reader in block b: the tokens, the next one, the one at fault, two levels, the names -/
structure Rb (w : World) (b : Nat) (toks : List Tok) (lv : Value) (k bad i j : Int) (nv : Value) : Prop where
  cells : w.heap[b]? = some (.cells (rbCells lv k bad i j nv) 83 (0, 0))
  has : Has w 3 lv toks.length (toksCells toks)
  far : lv.ownBlock ≠ some b

section
variable {w w' : World} {b : Nat} {toks : List Tok} {lv nv : Value} {k bad i j : Int}
theorem Rb.at (h : Rb w b toks lv k bad i j nv) :
    w.cell? ⟨b, 0, none⟩ = some lv ∧ w.cell? ⟨b, 1, none⟩ = some (.int .i64 k) ∧ w.cell? ⟨b, 2, none⟩ = some (.int .i64 bad) ∧ w.cell? ⟨b, 3, none⟩ = some (.int .i64 i) ∧ w.cell? ⟨b, 4, none⟩ = some (.int .i64 j) ∧ w.cell? ⟨b, 5, none⟩ = some nv := by
  have hc : ∀ x : Nat, w.cell? ⟨b, x, none⟩ = (rbCells lv k bad i j nv)[x]? := fun x => by simp [World.cell?, h.cells]
  exact ⟨hc 0, hc 1, hc 2, hc 3, hc 4, hc 5⟩
theorem Rb.drewN (h : Rb w b toks lv k bad i j nv) (m : Nat) : Rb (w.drewN m) b toks lv k bad i j nv :=
  ⟨h.cells, h.has.grown (grown_drewN (grown_refl _ (some b)) m) h.far, h.far⟩
theorem Rb.kept (h : Rb w b toks lv k bad i j nv) (hb : Below w.heap.size w w') : Rb w' b toks lv k bad i j nv :=
  ⟨by rw [hb.block b (Array.getElem?_eq_some_iff.1 h.cells).1]; exact h.cells, h.has.grown (grown_below hb) h.far, h.far⟩
theorem Rb.set1 (h : Rb w b toks lv k bad i j nv) (k' : Int) : Rb (w.setCell ⟨b, 1, none⟩ (.int .i64 k')) b toks lv k' bad i j nv :=
  ⟨by simp [World.setCell, Array.getElem?_modify, h.cells, rbCells], h.has.grown (grown_set (grown_refl _ _) 1 _) h.far, h.far⟩
theorem Rb.set2 (h : Rb w b toks lv k bad i j nv) (x : Int) : Rb (w.setCell ⟨b, 2, none⟩ (.int .i64 x)) b toks lv k x i j nv :=
  ⟨by simp [World.setCell, Array.getElem?_modify, h.cells, rbCells], h.has.grown (grown_set (grown_refl _ _) 2 _) h.far, h.far⟩
theorem Rb.fz (h : Rb w b toks lv k bad i j nv) (x : Nat) : w.frozen? ⟨b, x, none⟩ = false := by
  simp [World.frozen?, h.cells]
theorem Rb.lt (h : Rb w b toks lv k bad i j nv) : b < w.heap.size := (Array.getElem?_eq_some_iff.1 h.cells).1
end

theorem post_end0 {P : Program} {fn : Func} {R : Ending → World → Prop} {a : Act} {w : World} (hr : fn.results = #[]) (hd : a.defers = []) (hR : R (.returned (.tuple #[])) w) : bodyPost P fn R .normal a w :=
  bodyPost_end (results_none hr _ _ _) hd hR

section
variable (b : Nat) (toks : List Tok) (lv nv : Value) (k : Nat) (bad i j : Int) (w : World)

set_option maxHeartbeats 1000000 in
set_option maxRecDepth 100000 in
theorem rkind_any (h : Rb w b toks lv k bad i j nv) :
    Calls Tryd.prog 45 #[.pointer (some ⟨b, 0, none⟩)] w fun e w' => e = .returned (.int .i64 (kindAt toks k : Nat)) ∧ ∃ m, w' = w.drewN m := by
  obtain ⟨c0, c1, c2, c3, c4, c5⟩ := h.at
  rcases h.has.2 with ⟨rfl, h0⟩ | ⟨bt, o, c, rfl, hn, hb, hcells⟩
  · have HV : Hid (kindAt toks k = 0) := Lib.hid (kindAt_ge (by omega))
    have hlt : ¬ (k : Int) < ((0 : Nat) : Int) := by omega
    have hlt2 : decide ((k : Int) < 0) = false := by simp
    clear h h0
    go_enter Tryd.func45, Tryd.ntmps45
    go_wp2
    go_quiet (fail)
    go_wp2
    go_ret
    exact ⟨by rw [HV.out]; rfl, _, rfl⟩
  · unfold maxLen at hn
    by_cases hlt : k < toks.length
    · have hat := toksCells_at toks k hlt
      have t0 := (hcells (k * 3) (by omega)).trans hat.1
      have HV : Hid (kindAt toks k = toks[k].kind) := Lib.hid (by rw [kindAt_eq hlt])
      have hd : decide (k < toks.length) = true := by simp [hlt]
      clear h hcells hat
      generalize toks[k].kind = kk at t0 HV
      go_enter Tryd.func45, Tryd.ntmps45
      go_wp2
      go_quiet (fail)
      revert nq
      intro n1
      go_wp2
      go_quiet (fail)
      go_wp2
      go_ret
      exact ⟨by rw [HV.out]; rfl, n1 + nq, by simp⟩
    · have HV : Hid (kindAt toks k = 0) := Lib.hid (kindAt_ge (by omega))
      have hd : decide (k < toks.length) = false := by simp; omega
      clear h hcells
      go_enter Tryd.func45, Tryd.ntmps45
      go_wp2
      go_quiet (fail)
      go_wp2
      go_ret
      exact ⟨by rw [HV.out]; rfl, _, rfl⟩

theorem textAt_ge {l : List Tok} {k : Nat} (h : l.length ≤ k) : textAt l k = [] := by simp [textAt, List.getElem?_eq_none h]

set_option maxHeartbeats 1000000 in
set_option maxRecDepth 100000 in
theorem rword_at (h : Rb w b toks lv k bad i j nv) :
    Calls Tryd.prog 46 #[.pointer (some ⟨b, 0, none⟩)] w fun e w' => e = .returned (.string ⟨(textAt toks k).toArray⟩) ∧ ∃ m, w' = w.drewN m := by
  obtain ⟨c0, c1, c2, c3, c4, c5⟩ := h.at
  rcases h.has.2 with ⟨rfl, h0⟩ | ⟨bt, o, c, rfl, hn, hb, hcells⟩
  · have HV : Hid (textAt toks k = []) := Lib.hid (textAt_ge (by omega))
    have hlt : ¬ (k : Int) < ((0 : Nat) : Int) := by omega
    have hlt2 : decide ((k : Int) < 0) = false := by simp
    clear h h0
    go_enter Tryd.func46, Tryd.ntmps46
    go_wp2
    go_quiet (fail)
    go_wp2
    go_ret
    exact ⟨by rw [HV.out]; rfl, _, rfl⟩
  · unfold maxLen at hn
    by_cases hlt : k < toks.length
    · have hat := toksCells_at toks k hlt
      have t1 : w.cell? ⟨bt, o + k * 3 + 1, none⟩ = _ := (hcells (k * 3 + 1) (by omega)).trans hat.2.1
      have HV : Hid (textAt toks k = toks[k].text) := Lib.hid (by rw [textAt_eq hlt])
      have hd : decide (k < toks.length) = true := by simp [hlt]
      clear h hcells hat
      generalize toks[k].text = kk at t1 HV
      go_enter Tryd.func46, Tryd.ntmps46
      go_wp2
      go_quiet (fail)
      revert nq
      intro n1
      go_wp2
      go_quiet (fail)
      go_wp2
      go_ret
      exact ⟨by rw [HV.out]; rfl, n1 + nq, by simp⟩
    · have HV : Hid (textAt toks k = []) := Lib.hid (textAt_ge (by omega))
      have hd : decide (k < toks.length) = false := by simp; omega
      clear h hcells
      go_enter Tryd.func46, Tryd.ntmps46
      go_wp2
      go_quiet (fail)
      go_wp2
      go_ret
      exact ⟨by rw [HV.out]; rfl, _, rfl⟩

set_option maxHeartbeats 1000000 in
set_option maxRecDepth 100000 in
theorem rfail_new (x : Int) (h : Rb w b toks lv k (-1) i j nv) :
    Calls Tryd.prog 47 #[.pointer (some ⟨b, 0, none⟩), .int .i64 x] w fun e w' => e = .returned (.tuple #[]) ∧ w' = w.setCell ⟨b, 2, none⟩ (.int .i64 x) := by
  obtain ⟨c0, c1, c2, c3, c4, c5⟩ := h.at
  have f2 := h.fz 2
  have hb := h.lt
  clear h
  go_enter Tryd.func47, Tryd.ntmps47
  go_wp2
  exact post_end0 rfl rfl ⟨rfl, rfl⟩

set_option maxHeartbeats 1000000 in
theorem rwithin_any (n : Int) (f : Nat) (w : World) : Calls Tryd.prog 64 #[.int .i64 n, .float .f64 f] w fun e w' => e = .returned (.bool (withinB n f)) ∧ w = w' := by
  go_enter Tryd.func64, Tryd.ntmps64
  go_wp2
  go_ret
  exact ⟨rfl, rfl⟩

set_option maxHeartbeats 1000000 in
set_option maxRecDepth 100000 in
theorem rwant_stop (kind kk : Int) (hbad : 0 ≤ bad) (h : Rb w b toks lv kk bad i j nv) :
    Calls Tryd.prog 43 #[.pointer (some ⟨b, 0, none⟩), .int .i64 kind] w fun e w' => e = .returned (.string ⟨#[]⟩) ∧ w' = w := by
  obtain ⟨c0, c1, c2, c3, c4, c5⟩ := h.at
  clear h
  go_enter Tryd.func43, Tryd.ntmps43
  go_wp2
  go_ret
  exact ⟨rfl, rfl⟩

set_option maxHeartbeats 1000000 in
set_option maxRecDepth 100000 in
theorem rwant_bad (kind : Nat) (hk : kindAt toks k ≠ kind) (h : Rb w b toks lv k (-1) i j nv) :
    Calls Tryd.prog 43 #[.pointer (some ⟨b, 0, none⟩), .int .i64 kind] w fun e w' => e = .returned (.string ⟨#[]⟩) ∧ Rb w' b toks lv k k i j nv ∧ w.grownBy w' (some b) ∧ w'.heap.size = w.heap.size := by
  have HV : Hid (((kindAt toks k : Int) != (kind : Int)) = true) := Lib.hid (by simp; omega)
  have HR := Lib.hid h
  obtain ⟨c0, c1, c2, c3, c4, c5⟩ := h.at
  clear h hk
  go_enter Tryd.func43, Tryd.ntmps43
  go_wp2_with fail
  refine (rkind_any b toks lv nv k (-1) i j w HR.out).mono ?_
  rintro e w1 ⟨rfl, m, rfl⟩
  have hv := HV.out
  obtain ⟨c0, c1, c2, c3, c4, c5⟩ := (HR.out.drewN m).at
  go_wp2_with fail
  refine (rfail_new b toks lv nv k i j _ k (HR.out.drewN m)).mono ?_
  rintro e w1 ⟨rfl, rfl⟩
  go_wp2
  go_ret
  exact ⟨rfl, (HR.out.drewN m).set2 _, grown_set (grown_drewN (grown_refl _ _) _) 2 _, by simp [World.setCell]⟩

set_option maxHeartbeats 1000000 in
set_option maxRecDepth 100000 in
theorem rwant_ok (kind : Nat) (hk0 : kind ≠ 0) (hk : kindAt toks k = kind) (hl : toks.length ≤ 1099511627776) (h : Rb w b toks lv k (-1) i j nv) :
    Calls Tryd.prog 43 #[.pointer (some ⟨b, 0, none⟩), .int .i64 kind] w fun e w' => e = .returned (.string ⟨(textAt toks k).toArray⟩) ∧ Rb w' b toks lv ((k : Int) + 1) (-1) i j nv ∧ w.grownBy w' (some b) ∧ w'.heap.size = w.heap.size := by
  have HV : Hid (((kindAt toks k : Int) != (kind : Int)) = false) := Lib.hid (by simp; omega)
  have HR := Lib.hid h
  have hlt := kindAt_lt (l := toks) (k := k) (by omega)
  obtain ⟨c0, c1, c2, c3, c4, c5⟩ := h.at
  clear h hk hk0
  go_enter Tryd.func43, Tryd.ntmps43
  go_wp2_with fail
  refine (rkind_any b toks lv nv k (-1) i j w HR.out).mono ?_
  rintro e w1 ⟨rfl, m, rfl⟩
  have hv := HV.out
  clear c0 c1 c2 c3 c4 c5
  go_wp2_with fail
  refine (rword_at b toks lv nv k (-1) i j _ (HR.out.drewN m)).mono ?_
  rintro e w2 ⟨rfl, m2, rfl⟩
  have hr2 := HR.out.drewN (m + m2)
  obtain ⟨c0, c1, c2, c3, c4, c5⟩ := hr2.at
  have f1 := hr2.fz 1
  have hb1 := hr2.lt
  have HR2 := Lib.hid hr2
  clear hr2
  go_wp2
  go_ret
  exact ⟨rfl, HR2.out.set1 _, grown_set (grown_drewN (grown_refl _ _) _) 1 _, by simp [World.setCell]⟩
end
end Go.Proofs.YtfpiogaakblpeaaDoor

namespace Go.Proofs.YtfpiogaakblpeaaDoor
open Go.RowKit

/-- two blocks alone may turn -/
structure Gr2 (br bp : Nat) (a c : World) : Prop where
  os : c.os = a.os
  tape : c.tape = a.tape
  output : c.output = a.output
  size : a.heap.size ≤ c.heap.size
  block : ∀ i, i < a.heap.size → i ≠ br → i ≠ bp → c.heap[i]? = a.heap[i]?
section
variable {a c d : World} {br bp : Nat}
theorem Gr2.refl (br bp : Nat) (a : World) : Gr2 br bp a a := ⟨rfl, rfl, rfl, Nat.le_refl _, fun _ _ _ _ => rfl⟩
theorem Gr2.trans (h : Gr2 br bp a c) (k : Gr2 br bp c d) : Gr2 br bp a d :=
  ⟨k.os.trans h.os, k.tape.trans h.tape, k.output.trans h.output, Nat.le_trans h.size k.size, fun i hi h1 h2 => (k.block i (Nat.lt_of_lt_of_le hi h.size) h1 h2).trans (h.block i hi h1 h2)⟩
theorem Gr2.below (h : Below a.heap.size a c) : Gr2 br bp a c := ⟨h.os, h.tape, h.output, h.size, fun i hi _ _ => h.block i hi⟩
theorem Gr2.left (h : a.grownBy c (some br)) : Gr2 br bp a c := ⟨h.os, h.tape, h.output, h.size, fun i hi h1 _ => h.block i hi (by simpa using h1)⟩
theorem Gr2.right (h : a.grownBy c (some bp)) : Gr2 br bp a c := ⟨h.os, h.tape, h.output, h.size, fun i hi _ h2 => h.block i hi (by simpa using h2)⟩
theorem Gr2.drewN (h : Gr2 br bp a c) (m : Nat) : Gr2 br bp a (c.drewN m) := ⟨h.os, h.tape, h.output, h.size, h.block⟩
theorem below_of_gr2 {B : Nat} (h : Gr2 br bp a c) (h1 : B ≤ br) (h2 : B ≤ bp) (hs : B ≤ a.heap.size) : Below B a c :=
  ⟨h.os, h.tape, h.output, h.size, fun k hk => h.block k (by omega) (by omega) (by omega)⟩
theorem Has.gr2 {size : Nat} {v : Value} {n : Nat} {xs : List Value} (h : Has a size v n xs) (hg : Gr2 br bp a c) (h1 : v.ownBlock ≠ some br) (h2 : v.ownBlock ≠ some bp) : Has c size v n xs := by
  refine ⟨h.1, ?_⟩
  rcases h.2 with h3 | ⟨g, o, c', rfl, hn, hb, hc⟩
  · exact .inl h3
  · have hgb : c.heap[g]? = a.heap[g]? := hg.block g hb (by simpa [Value.ownBlock] using h1) (by simpa [Value.ownBlock] using h2)
    exact .inr ⟨g, o, c', rfl, hn, Nat.lt_of_lt_of_le hb hg.size, fun j hj => by rw [← hc j hj]; simp only [World.cell?, hgb]⟩
end

def pbCells (br : Nat) (df wf : Nat) (n : Int) (wd : ByteArray) : Array Value := #[.pointer (some ⟨br, 0, none⟩), .float .f64 df, .float .f64 wf, .int .i64 n, .string wd]
/-- the parser: its reader in br, itself in bp -/
structure Rp (w : World) (br bp : Nat) (toks : List Tok) (lv : Value) (k bad n : Int) (wd : ByteArray) (df wf : Nat) : Prop where
  rb : Rb w br toks lv k bad 0 0 (.slice none 0 0)
  pb : w.heap[bp]? = some (.cells (pbCells br df wf n wd) 86 (0, 0))
  pfar : lv.ownBlock ≠ some bp
  ne : br ≠ bp

section
variable {w w' : World} {br bp : Nat} {toks : List Tok} {lv : Value} {k bad n k' bad' : Int} {wd : ByteArray} {df wf : Nat}
theorem Rp.pat (h : Rp w br bp toks lv k bad n wd df wf) :
    w.cell? ⟨bp, 0, none⟩ = some (.pointer (some ⟨br, 0, none⟩)) ∧ w.cell? ⟨bp, 1, none⟩ = some (.float .f64 df) ∧ w.cell? ⟨bp, 2, none⟩ = some (.float .f64 wf) ∧ w.cell? ⟨bp, 3, none⟩ = some (.int .i64 n) ∧ w.cell? ⟨bp, 4, none⟩ = some (.string wd) := by
  have hc : ∀ x : Nat, w.cell? ⟨bp, x, none⟩ = (pbCells br df wf n wd)[x]? := fun x => by simp [World.cell?, h.pb]
  exact ⟨hc 0, hc 1, hc 2, hc 3, hc 4⟩
theorem Rp.plt (h : Rp w br bp toks lv k bad n wd df wf) : bp < w.heap.size := (Array.getElem?_eq_some_iff.1 h.pb).1
theorem Rp.pfz (h : Rp w br bp toks lv k bad n wd df wf) (x : Nat) : w.frozen? ⟨bp, x, none⟩ = false := by simp [World.frozen?, h.pb]
theorem Rp.drewN (h : Rp w br bp toks lv k bad n wd df wf) (m : Nat) : Rp (w.drewN m) br bp toks lv k bad n wd df wf := ⟨h.rb.drewN m, h.pb, h.pfar, h.ne⟩
theorem Rp.kept (h : Rp w br bp toks lv k bad n wd df wf) (hb : Below w.heap.size w w') : Rp w' br bp toks lv k bad n wd df wf :=
  ⟨h.rb.kept hb, by rw [hb.block bp h.plt]; exact h.pb, h.pfar, h.ne⟩
/-- the reader moved -/
theorem Rp.moved (h : Rp w br bp toks lv k bad n wd df wf) (rb : Rb w' br toks lv k' bad' 0 0 (.slice none 0 0)) (g : w.grownBy w' (some br)) : Rp w' br bp toks lv k' bad' n wd df wf :=
  ⟨rb, by rw [g.block bp h.plt (by simpa using h.ne.symm)]; exact h.pb, h.pfar, h.ne⟩
theorem Rp.set1 (h : Rp w br bp toks lv k bad n wd df wf) (k' : Int) : Rp (w.setCell ⟨br, 1, none⟩ (.int .i64 k')) br bp toks lv k' bad n wd df wf := h.moved (h.rb.set1 k') (grown_set (grown_refl _ _) 1 _)
theorem Rp.set2 (h : Rp w br bp toks lv k bad n wd df wf) (x : Int) : Rp (w.setCell ⟨br, 2, none⟩ (.int .i64 x)) br bp toks lv k x n wd df wf := h.moved (h.rb.set2 x) (grown_set (grown_refl _ _) 2 _)
theorem Rp.setn (h : Rp w br bp toks lv k bad n wd df wf) (x : Int) : Rp (w.setCell ⟨bp, 3, none⟩ (.int .i64 x)) br bp toks lv k bad x wd df wf :=
  ⟨⟨by rw [Below.heap_setCell _ _ _ _ h.ne]; exact h.rb.cells, h.rb.has.grown (grown_set (grown_refl _ _) 3 _) h.pfar, h.rb.far⟩, by simp [World.setCell, Array.getElem?_modify, h.pb, pbCells], h.pfar, h.ne⟩
theorem Rp.setw (h : Rp w br bp toks lv k bad n wd df wf) (x : ByteArray) : Rp (w.setCell ⟨bp, 4, none⟩ (.string x)) br bp toks lv k bad n x df wf :=
  ⟨⟨by rw [Below.heap_setCell _ _ _ _ h.ne]; exact h.rb.cells, h.rb.has.grown (grown_set (grown_refl _ _) 4 _) h.pfar, h.rb.far⟩, by simp [World.setCell, Array.getElem?_modify, h.pb, pbCells], h.pfar, h.ne⟩
end

/-- the state of a call of deriv that began in w -/
structure QSt (w : World) (br bp : Nat) (toks : List Tok) (lv : Value) (k bad n : Int) (wd : ByteArray) (df wf : Nat) (wi : World) : Prop where
  rp : Rp wi br bp toks lv k bad n wd df wf
  gr : Gr2 br bp w wi
  res : wi.heap[w.heap.size]? = some (.cells #[.int .i64 0, .int .i64 0, .slice none 0 0] 24 (0, 0))
section
variable {w wi wj : World} {br bp : Nat} {toks : List Tok} {lv : Value} {k bad n k' bad' n' : Int} {wd wd' : ByteArray} {df wf : Nat}
theorem QSt.start (h : Rp w br bp toks lv k bad n wd df wf) : QSt w br bp toks lv k bad n wd df wf (w.alloc (.cells #[.int .i64 0, .int .i64 0, .slice none 0 0] 24)) :=
  ⟨h.kept (below_alloc _ _), .below (below_alloc _ _), new_heap _ _ _⟩
theorem QSt.next (h : QSt w br bp toks lv k bad n wd df wf wi) (hb : br < w.heap.size) (hp : bp < w.heap.size) (rp : Rp wj br bp toks lv k' bad' n' wd' df wf) (g : Gr2 br bp wi wj) : QSt w br bp toks lv k' bad' n' wd' df wf wj :=
  ⟨rp, h.gr.trans g, by rw [g.block _ (Array.getElem?_eq_some_iff.1 h.res).1 (by omega) (by omega)]; exact h.res⟩
theorem QSt.drewN (h : QSt w br bp toks lv k bad n wd df wf wi) (m : Nat) : QSt w br bp toks lv k bad n wd df wf (wi.drewN m) := ⟨h.rp.drewN m, h.gr.drewN m, h.res⟩
theorem QSt.below (h : QSt w br bp toks lv k bad n wd df wf wi) (hb : br < w.heap.size) (hp : bp < w.heap.size) (g : Below wi.heap.size wi wj) : QSt w br bp toks lv k bad n wd df wf wj := h.next hb hp (h.rp.kept g) (.below g)
end

section
variable (br bp : Nat) (toks : List Tok) (lv : Value) (k : Nat) (bad n : Int) (wd : ByteArray) (df wf : Nat) (deep : Nat) (w : World)

set_option maxHeartbeats 1000000 in
theorem pstop_any (kk : Int) (h : Rp w br bp toks lv kk bad n wd df wf) : Calls Tryd.prog 44 #[.pointer (some ⟨bp, 0, none⟩)] w fun e w' => e = .returned (.bool (decide (0 ≤ bad))) ∧ w' = w := by
  obtain ⟨p0, p1, p2, p3, p4⟩ := h.pat
  obtain ⟨c0, c1, c2, c3, c4, c5⟩ := h.rb.at
  clear h
  go_enter Tryd.func44, Tryd.ntmps44
  go_wp2
  go_ret
  exact ⟨rfl, rfl⟩

/-- what a call of deriv that stops comes back with -/
def BadR (w : World) (br bp : Nat) (toks : List Tok) (lv : Value) (df wf : Nat) (k : Nat) (y : Why) (e : Ending) (w' : World) : Prop :=
  ∃ (r i : Int) (a : Option Addr) (l c : Nat) (kk n : Int), e = .returned (derivV r i (.slice a l c)) ∧ Rp w' br bp toks lv kk k n (wordOf y) df wf ∧ Gr2 br bp w w'

set_option maxHeartbeats 1000000 in
set_option maxRecDepth 100000 in
theorem rderiv_stop (kk : Int) (hbad : 0 ≤ bad) (h : Rp w br bp toks lv kk bad n wd df wf) :
    Calls Tryd.prog 48 #[.pointer (some ⟨bp, 0, none⟩), .int .i64 deep] w fun e w' => e = .returned (derivV 0 0 (.slice none 0 0)) ∧ Rp w' br bp toks lv kk bad n wd df wf ∧ Gr2 br bp w w' := by
  have Q0 := Lib.hid (QSt.start h)
  have hbr := h.rb.lt
  have hbp := h.plt
  have HD : Hid (decide (0 ≤ bad) = true) := Lib.hid (by simpa using hbad)
  clear h
  go_enter Tryd.func48, Tryd.ntmps48
  go_wp2_with fail
  refine (pstop_any br bp toks lv bad n wd df wf _ kk Q0.out.rp).mono ?_
  rintro e w1 ⟨rfl, rfl⟩
  rw [HD.out]
  go_wp2
  have hres := Q0.out.res
  have u0 : (w.alloc (.cells #[.int .i64 0, .int .i64 0, .slice none 0 0] 24)).cell? ⟨w.heap.size, 0, none⟩ = some (.int .i64 0) := by simp only [World.cell?, hres]; rfl
  have u1 : (w.alloc (.cells #[.int .i64 0, .int .i64 0, .slice none 0 0] 24)).cell? ⟨w.heap.size, 1, none⟩ = some (.int .i64 0) := by simp only [World.cell?, hres]; rfl
  have u2 : (w.alloc (.cells #[.int .i64 0, .int .i64 0, .slice none 0 0] 24)).cell? ⟨w.heap.size, 2, none⟩ = some (.slice none 0 0) := by simp only [World.cell?, hres]; rfl
  exact bodyPost_ret (v := .agg #[.int .i64 0, .int .i64 0, .slice none 0 0]) (by simp [results, Tryd.results48, go_sem, u0, u1, u2]) rfl ⟨rfl, Q0.out.rp, Q0.out.gr⟩

theorem heap_set {X : World} {b : Nat} {cs : Array Value} {t : TypeId} {fr : Nat × Nat} (h : X.heap[b]? = some (.cells cs t fr)) (j : Nat) (v : Value) : (X.setCell ⟨b, j, none⟩ v).heap[b]? = some (.cells (cs.setIfInBounds j v) t fr) := by
  simp [World.setCell, Array.getElem?_modify, h]
/-- the zero result laid into its block -/
theorem zero_end {w X Y : World} {br bp : Nat} {toks : List Tok} {lv : Value} {k bad n : Int} {wd : ByteArray} {df wf : Nat} (hb : br < w.heap.size) (hp : bp < w.heap.size) (h : QSt w br bp toks lv k bad n wd df wf X)
    (hY : ((X.setCell ⟨w.heap.size, 0, none⟩ (.int .i64 0)).setCell ⟨w.heap.size, 1, none⟩ (.int .i64 0)).setCell ⟨w.heap.size, 2, none⟩ (.slice none 0 0) = Y) : QSt w br bp toks lv k bad n wd df wf Y := by
  have hx : ∀ x, Y.heap[x]? = X.heap[x]? := fun x => by
    by_cases hxw : x = w.heap.size
    · subst hxw
      rw [h.res, ← hY]
      exact heap_set (heap_set (heap_set h.res 0 _) 1 _) 2 _
    · rw [← hY, Below.heap_setCell _ _ _ _ hxw, Below.heap_setCell _ _ _ _ hxw, Below.heap_setCell _ _ _ _ hxw]
  have hz : Y.heap.size = X.heap.size := by rw [← hY]; simp [World.setCell]
  have hb' : Below X.heap.size X Y := ⟨by rw [← hY]; rfl, by rw [← hY]; rfl, by rw [← hY]; rfl, by omega, fun x _ => hx x⟩
  exact h.below hb hp hb'

set_option maxHeartbeats 2000000 in
set_option maxRecDepth 100000 in
theorem rderiv_bad1 (h : Rp w br bp toks lv k (-1) n ⟨#[]⟩ df wf) (h1 : kindAt toks k ≠ 1) : Calls Tryd.prog 48 #[.pointer (some ⟨bp, 0, none⟩), .int .i64 deep] w (BadR w br bp toks lv df wf k .parse) := by
  have Q0 := Lib.hid (QSt.start h)
  have hbr := h.rb.lt
  have hbp := h.plt
  have HV : Hid (((kindAt toks k : Int) != 1) = true) := Lib.hid (by simp; omega)
  clear h h1
  go_enter Tryd.func48, Tryd.ntmps48
  go_wp2_with fail
  refine (pstop_any br bp toks lv (-1) _ _ df wf _ _ Q0.out.rp).mono ?_
  rintro e w1 ⟨rfl, rfl⟩
  obtain ⟨p0, p1, p2, p3, p4⟩ := Q0.out.rp.pat
  go_wp2_with fail
  refine (rkind_any br toks lv _ k (-1) 0 0 _ Q0.out.rp.rb).mono ?_
  rintro e w2 ⟨rfl, m1, rfl⟩
  have Q1 := Lib.hid (Q0.out.drewN m1)
  clear p0 p1 p2 p3 p4
  have hv := HV.out
  generalize hW : (w.alloc (.cells #[.int .i64 0, .int .i64 0, .slice none 0 0] 24)).drewN m1 = W at *
  go_wp2_with fail
  have hrp := Q1.out.rp
  obtain ⟨base, hb0, hb2⟩ : ∃ base : Side → World, base .ahead = W ∧ base .behind = W.setCell ⟨br, 2, none⟩ (.int .i64 k) := ⟨fun b => match b with | .ahead => _ | .behind => _, rfl, rfl⟩
  have q0 : ∀ b, (base b).cell? ⟨bp, 0, none⟩ = some (.pointer (some ⟨br, 0, none⟩)) := fun b => by
    cases b
    · rw [hb0]; exact hrp.pat.1
    · rw [hb2]; exact (hrp.set2 _).pat.1
  have q1 : ∀ b, (base b).cell? ⟨br, 1, none⟩ = some (.int .i64 k) := fun b => by
    cases b
    · rw [hb0]; exact hrp.rb.at.2.1
    · rw [hb2]; exact (hrp.set2 _).rb.at.2.1
  have HB0 := Lib.hid hb0
  have HB2 := Lib.hid hb2
  clear hb0 hb2 hrp
  refine wp_region_callY_lit 11 base (by kernel_rfl) (by kernel_rfl) (by kernel_rfl) HB0.out.symm ?_
  iterate 11 (refine callY_still rfl rfl (fun K hK => ?_); go_simp; refine hK _ ?_; clear hK K)
  refine callY_call (.tuple #[]) rfl rfl rfl (fun m => ?_) ?_
  · go_simp
    refine (rfail_new br toks lv (.slice none 0 0) _ 0 0 _ _ (by rw [HB0.out]; exact Q1.out.rp.rb.drewN m)).mono ?_
    rintro e w9 ⟨rfl, rfl⟩
    refine ⟨rfl, m, ?_⟩
    rw [HB0.out, HB2.out]
    rfl
  refine yLex_end (fun m => ?_)
  rw [HB2.out]
  have QE := Lib.hid ((Q1.out.next hbr hbp (Q1.out.rp.set2 k) (.left (grown_set (grown_refl _ _) 2 _))).drewN m)
  have hres := QE.out.res
  have e0 : ((W.setCell ⟨br, 2, none⟩ (.int .i64 k)).drewN m).cell? ⟨w.heap.size, 0, none⟩ = some (.int .i64 0) := by simp only [World.cell?, hres]; rfl
  have e1 : ((W.setCell ⟨br, 2, none⟩ (.int .i64 k)).drewN m).cell? ⟨w.heap.size, 1, none⟩ = some (.int .i64 0) := by simp only [World.cell?, hres]; rfl
  have e2 : ((W.setCell ⟨br, 2, none⟩ (.int .i64 k)).drewN m).cell? ⟨w.heap.size, 2, none⟩ = some (.slice none 0 0) := by simp only [World.cell?, hres]; rfl
  have g0 : ((W.setCell ⟨br, 2, none⟩ (.int .i64 k)).drewN m).frozen? ⟨w.heap.size, 0, none⟩ = false := by simp only [World.frozen?, hres]; rfl
  have g1 : ((W.setCell ⟨br, 2, none⟩ (.int .i64 k)).drewN m).frozen? ⟨w.heap.size, 1, none⟩ = false := by simp only [World.frozen?, hres]; rfl
  have g2 : ((W.setCell ⟨br, 2, none⟩ (.int .i64 k)).drewN m).frozen? ⟨w.heap.size, 2, none⟩ = false := by simp only [World.frozen?, hres]; rfl
  have hlt : w.heap.size < ((W.setCell ⟨br, 2, none⟩ (.int .i64 k)).drewN m).heap.size := (Array.getElem?_eq_some_iff.1 hres).1
  clear hres q0 q1
  generalize (W.setCell ⟨br, 2, none⟩ (.int .i64 k)).drewN m = X at *
  go_wp2
  obtain ⟨Y, hY⟩ : ∃ Y, ((X.setCell ⟨w.heap.size, 0, none⟩ (.int .i64 0)).setCell ⟨w.heap.size, 1, none⟩ (.int .i64 0)).setCell ⟨w.heap.size, 2, none⟩ (.slice none 0 0) = Y := ⟨_, rfl⟩
  have hz := zero_end hbr hbp QE.out hY
  rw [hY]
  have u0 : Y.cell? ⟨w.heap.size, 0, none⟩ = some (.int .i64 0) := by simp only [World.cell?, hz.res]; rfl
  have u1 : Y.cell? ⟨w.heap.size, 1, none⟩ = some (.int .i64 0) := by simp only [World.cell?, hz.res]; rfl
  have u2 : Y.cell? ⟨w.heap.size, 2, none⟩ = some (.slice none 0 0) := by simp only [World.cell?, hz.res]; rfl
  exact bodyPost_ret (v := .agg #[.int .i64 0, .int .i64 0, .slice none 0 0]) (by simp [results, Tryd.results48, go_sem, u0, u1, u2]) rfl ⟨0, 0, none, 0, 0, _, _, rfl, hz.rp, hz.gr⟩

set_option maxHeartbeats 2000000 in
set_option maxRecDepth 100000 in
theorem rderiv_bad2 (n : Nat) (h : Rp w br bp toks lv k (-1) n ⟨#[]⟩ df wf) (h1 : kindAt toks k = 1) (h2 : withinB deep df = false) (hn : n ≤ 1099511627776) : Calls Tryd.prog 48 #[.pointer (some ⟨bp, 0, none⟩), .int .i64 deep] w (BadR w br bp toks lv df wf k .deep) := by
  have Q0 := Lib.hid (QSt.start h)
  have hbr := h.rb.lt
  have hbp := h.plt
  have HV : Hid (((kindAt toks k : Int) != 1) = false) := Lib.hid (by simp; omega)
  clear h h1
  go_enter Tryd.func48, Tryd.ntmps48
  go_wp2_with fail
  refine (pstop_any br bp toks lv (-1) _ _ df wf _ _ Q0.out.rp).mono ?_
  rintro e w1 ⟨rfl, rfl⟩
  obtain ⟨p0, p1, p2, p3, p4⟩ := Q0.out.rp.pat
  go_wp2_with fail
  refine (rkind_any br toks lv _ k (-1) 0 0 _ Q0.out.rp.rb).mono ?_
  rintro e w2 ⟨rfl, m1, rfl⟩
  have Q1 := Lib.hid (Q0.out.drewN m1)
  clear p0 p1 p2 p3 p4
  have hv := HV.out
  generalize hW : (w.alloc (.cells #[.int .i64 0, .int .i64 0, .slice none 0 0] 24)).drewN m1 = W at *
  obtain ⟨p0, p1, p2, p3, p4⟩ := Q1.out.rp.pat
  have f3 := Q1.out.rp.pfz 3
  have hbpW := Q1.out.rp.plt
  have HW1 := Lib.hid hW
  clear hW
  go_wp2_with fail
  have Q2 := Lib.hid (Q1.out.next hbr hbp (Q1.out.rp.setn ((n : Int) + 1)) (.right (grown_set (grown_refl _ _) 3 _)))
  generalize hW2 : W.setCell ⟨bp, 3, none⟩ (.int .i64 ((n : Int) + 1)) = W2 at *
  clear HW1 Q1 p0 p1 p2 p3 p4 f3 hbpW
  refine (rwithin_any _ _ _).mono ?_
  rintro e w3 ⟨rfl, rfl⟩
  clear hW2
  obtain ⟨p0, p1, p2, p3, p4⟩ := Q2.out.rp.pat
  have f4 := Q2.out.rp.pfz 4
  have hbpW := Q2.out.rp.plt
  go_wp2_with fail
  have Q3 := Lib.hid (Q2.out.next hbr hbp (Q2.out.rp.setw ⟨#[100, 101, 101, 112]⟩) (.right (grown_set (grown_refl _ _) 4 _)))
  generalize hW3 : W2.setCell ⟨bp, 4, none⟩ (.string ⟨#[100, 101, 101, 112]⟩) = W3 at *
  clear hW3
  clear p0 p1 p2 p3 p4 f4 hbpW Q2
  have hrp := Q3.out.rp
  obtain ⟨base, hb0, hb2⟩ : ∃ base : Side → World, base .ahead = W3 ∧ base .behind = W3.setCell ⟨br, 2, none⟩ (.int .i64 k) := ⟨fun b => match b with | .ahead => _ | .behind => _, rfl, rfl⟩
  have q0 : ∀ b, (base b).cell? ⟨bp, 0, none⟩ = some (.pointer (some ⟨br, 0, none⟩)) := fun b => by
    cases b
    · rw [hb0]; exact hrp.pat.1
    · rw [hb2]; exact (hrp.set2 _).pat.1
  have q1 : ∀ b, (base b).cell? ⟨br, 1, none⟩ = some (.int .i64 k) := fun b => by
    cases b
    · rw [hb0]; exact hrp.rb.at.2.1
    · rw [hb2]; exact (hrp.set2 _).rb.at.2.1
  have HB0 := Lib.hid hb0
  have HB2 := Lib.hid hb2
  clear hb0 hb2 hrp
  refine wp_region_callY_lit 11 base (by kernel_rfl) (by kernel_rfl) (by kernel_rfl) HB0.out.symm ?_
  iterate 11 (refine callY_still rfl rfl (fun K hK => ?_); go_simp; refine hK _ ?_; clear hK K)
  refine callY_call (.tuple #[]) rfl rfl rfl (fun m => ?_) ?_
  · go_simp
    refine (rfail_new br toks lv (.slice none 0 0) _ 0 0 _ _ (by rw [HB0.out]; exact Q3.out.rp.rb.drewN m)).mono ?_
    rintro e w9 ⟨rfl, rfl⟩
    refine ⟨rfl, m, ?_⟩
    rw [HB0.out, HB2.out]
    rfl
  refine yLex_end (fun m => ?_)
  rw [HB2.out]
  have QE := Lib.hid ((Q3.out.next hbr hbp (Q3.out.rp.set2 k) (.left (grown_set (grown_refl _ _) 2 _))).drewN m)
  have hres := QE.out.res
  have e0 : ((W3.setCell ⟨br, 2, none⟩ (.int .i64 k)).drewN m).cell? ⟨w.heap.size, 0, none⟩ = some (.int .i64 0) := by simp only [World.cell?, hres]; rfl
  have e1 : ((W3.setCell ⟨br, 2, none⟩ (.int .i64 k)).drewN m).cell? ⟨w.heap.size, 1, none⟩ = some (.int .i64 0) := by simp only [World.cell?, hres]; rfl
  have e2 : ((W3.setCell ⟨br, 2, none⟩ (.int .i64 k)).drewN m).cell? ⟨w.heap.size, 2, none⟩ = some (.slice none 0 0) := by simp only [World.cell?, hres]; rfl
  have g0 : ((W3.setCell ⟨br, 2, none⟩ (.int .i64 k)).drewN m).frozen? ⟨w.heap.size, 0, none⟩ = false := by simp only [World.frozen?, hres]; rfl
  have g1 : ((W3.setCell ⟨br, 2, none⟩ (.int .i64 k)).drewN m).frozen? ⟨w.heap.size, 1, none⟩ = false := by simp only [World.frozen?, hres]; rfl
  have g2 : ((W3.setCell ⟨br, 2, none⟩ (.int .i64 k)).drewN m).frozen? ⟨w.heap.size, 2, none⟩ = false := by simp only [World.frozen?, hres]; rfl
  have hlt : w.heap.size < ((W3.setCell ⟨br, 2, none⟩ (.int .i64 k)).drewN m).heap.size := (Array.getElem?_eq_some_iff.1 hres).1
  clear hres q0 q1
  generalize (W3.setCell ⟨br, 2, none⟩ (.int .i64 k)).drewN m = X at *
  go_wp2
  obtain ⟨Y, hY⟩ : ∃ Y, ((X.setCell ⟨w.heap.size, 0, none⟩ (.int .i64 0)).setCell ⟨w.heap.size, 1, none⟩ (.int .i64 0)).setCell ⟨w.heap.size, 2, none⟩ (.slice none 0 0) = Y := ⟨_, rfl⟩
  have hz := zero_end hbr hbp QE.out hY
  rw [hY]
  have u0 : Y.cell? ⟨w.heap.size, 0, none⟩ = some (.int .i64 0) := by simp only [World.cell?, hz.res]; rfl
  have u1 : Y.cell? ⟨w.heap.size, 1, none⟩ = some (.int .i64 0) := by simp only [World.cell?, hz.res]; rfl
  have u2 : Y.cell? ⟨w.heap.size, 2, none⟩ = some (.slice none 0 0) := by simp only [World.cell?, hz.res]; rfl
  exact bodyPost_ret (v := .agg #[.int .i64 0, .int .i64 0, .slice none 0 0]) (by simp [results, Tryd.results48, go_sem, u0, u1, u2]) rfl ⟨0, 0, none, 0, 0, _, _, rfl, hz.rp, hz.gr⟩

set_option maxHeartbeats 2000000 in
set_option maxRecDepth 100000 in
theorem rderiv_bad3 (n : Nat) (h : Rp w br bp toks lv k (-1) n ⟨#[]⟩ df wf) (h1 : kindAt toks k = 1) (h2 : withinB deep df = true) (h3 : withinB ((n : Int) + 1) wf = false) (hn : n ≤ 1099511627776) : Calls Tryd.prog 48 #[.pointer (some ⟨bp, 0, none⟩), .int .i64 deep] w (BadR w br bp toks lv df wf k .nodes) := by
  have Q0 := Lib.hid (QSt.start h)
  have hbr := h.rb.lt
  have hbp := h.plt
  have HV : Hid (((kindAt toks k : Int) != 1) = false) := Lib.hid (by simp; omega)
  clear h h1
  go_enter Tryd.func48, Tryd.ntmps48
  go_wp2_with fail
  refine (pstop_any br bp toks lv (-1) _ _ df wf _ _ Q0.out.rp).mono ?_
  rintro e w1 ⟨rfl, rfl⟩
  obtain ⟨p0, p1, p2, p3, p4⟩ := Q0.out.rp.pat
  go_wp2_with fail
  refine (rkind_any br toks lv _ k (-1) 0 0 _ Q0.out.rp.rb).mono ?_
  rintro e w2 ⟨rfl, m1, rfl⟩
  have Q1 := Lib.hid (Q0.out.drewN m1)
  clear p0 p1 p2 p3 p4
  have hv := HV.out
  generalize hW : (w.alloc (.cells #[.int .i64 0, .int .i64 0, .slice none 0 0] 24)).drewN m1 = W at *
  obtain ⟨p0, p1, p2, p3, p4⟩ := Q1.out.rp.pat
  have f3 := Q1.out.rp.pfz 3
  have hbpW := Q1.out.rp.plt
  have HW1 := Lib.hid hW
  clear hW
  go_wp2_with fail
  have Q2 := Lib.hid (Q1.out.next hbr hbp (Q1.out.rp.setn ((n : Int) + 1)) (.right (grown_set (grown_refl _ _) 3 _)))
  generalize hW2 : W.setCell ⟨bp, 3, none⟩ (.int .i64 ((n : Int) + 1)) = W2 at *
  clear HW1 Q1 p0 p1 p2 p3 p4 f3 hbpW
  refine (rwithin_any _ _ _).mono ?_
  rintro e w3 ⟨rfl, rfl⟩
  clear hW2
  obtain ⟨p0, p1, p2, p3, p4⟩ := Q2.out.rp.pat
  go_wp2_with fail
  go_quiet ((go_at_call 64; exact quietR (rwithin_any _ _ _)))
  clear p0 p1 p2 p3 p4
  have Q2' := Lib.hid (Q2.out.drewN nq)
  generalize hW2 : W2.drewN nq = W2' at *
  clear hW2 Q2
  obtain ⟨p0, p1, p2, p3, p4⟩ := Q2'.out.rp.pat
  have f4 := Q2'.out.rp.pfz 4
  have hbpW := Q2'.out.rp.plt
  go_wp2_with fail
  have Q3 := Lib.hid (Q2'.out.next hbr hbp (Q2'.out.rp.setw ⟨#[110, 111, 100, 101, 115]⟩) (.right (grown_set (grown_refl _ _) 4 _)))
  generalize hW3 : W2'.setCell ⟨bp, 4, none⟩ (.string ⟨#[110, 111, 100, 101, 115]⟩) = W3 at *
  clear hW3
  clear p0 p1 p2 p3 p4 f4 hbpW Q2'
  have hrp := Q3.out.rp
  obtain ⟨base, hb0, hb2⟩ : ∃ base : Side → World, base .ahead = W3 ∧ base .behind = W3.setCell ⟨br, 2, none⟩ (.int .i64 k) := ⟨fun b => match b with | .ahead => _ | .behind => _, rfl, rfl⟩
  have q0 : ∀ b, (base b).cell? ⟨bp, 0, none⟩ = some (.pointer (some ⟨br, 0, none⟩)) := fun b => by
    cases b
    · rw [hb0]; exact hrp.pat.1
    · rw [hb2]; exact (hrp.set2 _).pat.1
  have q1 : ∀ b, (base b).cell? ⟨br, 1, none⟩ = some (.int .i64 k) := fun b => by
    cases b
    · rw [hb0]; exact hrp.rb.at.2.1
    · rw [hb2]; exact (hrp.set2 _).rb.at.2.1
  have HB0 := Lib.hid hb0
  have HB2 := Lib.hid hb2
  clear hb0 hb2 hrp
  refine wp_region_callY_lit 11 base (by kernel_rfl) (by kernel_rfl) (by kernel_rfl) HB0.out.symm ?_
  iterate 11 (refine callY_still rfl rfl (fun K hK => ?_); go_simp; refine hK _ ?_; clear hK K)
  refine callY_call (.tuple #[]) rfl rfl rfl (fun m => ?_) ?_
  · go_simp
    refine (rfail_new br toks lv (.slice none 0 0) _ 0 0 _ _ (by rw [HB0.out]; exact Q3.out.rp.rb.drewN m)).mono ?_
    rintro e w9 ⟨rfl, rfl⟩
    refine ⟨rfl, m, ?_⟩
    rw [HB0.out, HB2.out]
    rfl
  refine yLex_end (fun m => ?_)
  rw [HB2.out]
  have QE := Lib.hid ((Q3.out.next hbr hbp (Q3.out.rp.set2 k) (.left (grown_set (grown_refl _ _) 2 _))).drewN m)
  have hres := QE.out.res
  have e0 : ((W3.setCell ⟨br, 2, none⟩ (.int .i64 k)).drewN m).cell? ⟨w.heap.size, 0, none⟩ = some (.int .i64 0) := by simp only [World.cell?, hres]; rfl
  have e1 : ((W3.setCell ⟨br, 2, none⟩ (.int .i64 k)).drewN m).cell? ⟨w.heap.size, 1, none⟩ = some (.int .i64 0) := by simp only [World.cell?, hres]; rfl
  have e2 : ((W3.setCell ⟨br, 2, none⟩ (.int .i64 k)).drewN m).cell? ⟨w.heap.size, 2, none⟩ = some (.slice none 0 0) := by simp only [World.cell?, hres]; rfl
  have g0 : ((W3.setCell ⟨br, 2, none⟩ (.int .i64 k)).drewN m).frozen? ⟨w.heap.size, 0, none⟩ = false := by simp only [World.frozen?, hres]; rfl
  have g1 : ((W3.setCell ⟨br, 2, none⟩ (.int .i64 k)).drewN m).frozen? ⟨w.heap.size, 1, none⟩ = false := by simp only [World.frozen?, hres]; rfl
  have g2 : ((W3.setCell ⟨br, 2, none⟩ (.int .i64 k)).drewN m).frozen? ⟨w.heap.size, 2, none⟩ = false := by simp only [World.frozen?, hres]; rfl
  have hlt : w.heap.size < ((W3.setCell ⟨br, 2, none⟩ (.int .i64 k)).drewN m).heap.size := (Array.getElem?_eq_some_iff.1 hres).1
  clear hres q0 q1
  generalize (W3.setCell ⟨br, 2, none⟩ (.int .i64 k)).drewN m = X at *
  go_wp2
  obtain ⟨Y, hY⟩ : ∃ Y, ((X.setCell ⟨w.heap.size, 0, none⟩ (.int .i64 0)).setCell ⟨w.heap.size, 1, none⟩ (.int .i64 0)).setCell ⟨w.heap.size, 2, none⟩ (.slice none 0 0) = Y := ⟨_, rfl⟩
  have hz := zero_end hbr hbp QE.out hY
  rw [hY]
  have u0 : Y.cell? ⟨w.heap.size, 0, none⟩ = some (.int .i64 0) := by simp only [World.cell?, hz.res]; rfl
  have u1 : Y.cell? ⟨w.heap.size, 1, none⟩ = some (.int .i64 0) := by simp only [World.cell?, hz.res]; rfl
  have u2 : Y.cell? ⟨w.heap.size, 2, none⟩ = some (.slice none 0 0) := by simp only [World.cell?, hz.res]; rfl
  exact bodyPost_ret (v := .agg #[.int .i64 0, .int .i64 0, .slice none 0 0]) (by simp [results, Tryd.results48, go_sem, u0, u1, u2]) rfl ⟨0, 0, none, 0, 0, _, _, rfl, hz.rp, hz.gr⟩

set_option maxHeartbeats 2000000 in
set_option maxRecDepth 100000 in
theorem rderiv_bad4 (n : Nat) (h : Rp w br bp toks lv k (-1) n ⟨#[]⟩ df wf) (h1 : kindAt toks k = 1) (h2 : withinB deep df = true) (h3 : withinB ((n : Int) + 1) wf = true) (hn : n ≤ 1099511627776) (hl : toks.length ≤ 1099511627776)
    (h4 : kindAt toks (k + 1) ≠ 3 ∨ ruleI (textAt toks (k + 1)) = 0) : Calls Tryd.prog 48 #[.pointer (some ⟨bp, 0, none⟩), .int .i64 deep] w (BadR w br bp toks lv df wf (k + 1) .parse) := by
  have Q0 := Lib.hid (QSt.start h)
  have hbr := h.rb.lt
  have hbp := h.plt
  have HV : Hid (((kindAt toks k : Int) != 1) = false) := Lib.hid (by simp; omega)
  have hk := kindAt_lt (l := toks) (k := k) (by omega)
  obtain ⟨rr, hrr⟩ : ∃ rr, ruleI (textAt toks (k + 1)) = rr := ⟨_, rfl⟩
  have HRR := Lib.hid hrr
  rw [hrr] at h4
  have h4' : ((kindAt toks (k + 1) : Int) != 3) = true ∨ ((kindAt toks (k + 1) : Int) != 3) = false ∧ rr = 0 := by
    by_cases h5 : kindAt toks (k + 1) = 3
    · exact .inr ⟨by simp; omega, h4.resolve_left (by omega)⟩
    · exact .inl (by simp; omega)
  clear h h1 h4 hrr
  go_enter Tryd.func48, Tryd.ntmps48
  go_wp2_with fail
  refine (pstop_any br bp toks lv (-1) _ _ df wf _ _ Q0.out.rp).mono ?_
  rintro e w1 ⟨rfl, rfl⟩
  obtain ⟨p0, p1, p2, p3, p4⟩ := Q0.out.rp.pat
  go_wp2_with fail
  refine (rkind_any br toks lv _ k (-1) 0 0 _ Q0.out.rp.rb).mono ?_
  rintro e w2 ⟨rfl, m1, rfl⟩
  have Q1 := Lib.hid (Q0.out.drewN m1)
  clear p0 p1 p2 p3 p4
  have hv := HV.out
  generalize hW : (w.alloc (.cells #[.int .i64 0, .int .i64 0, .slice none 0 0] 24)).drewN m1 = W at *
  obtain ⟨p0, p1, p2, p3, p4⟩ := Q1.out.rp.pat
  have f3 := Q1.out.rp.pfz 3
  have hbpW := Q1.out.rp.plt
  have HW1 := Lib.hid hW
  clear hW
  go_wp2_with fail
  have Q2 := Lib.hid (Q1.out.next hbr hbp (Q1.out.rp.setn ((n : Int) + 1)) (.right (grown_set (grown_refl _ _) 3 _)))
  generalize hW2 : W.setCell ⟨bp, 3, none⟩ (.int .i64 ((n : Int) + 1)) = W2 at *
  clear HW1 Q1 p0 p1 p2 p3 p4 f3 hbpW
  refine (rwithin_any _ _ _).mono ?_
  rintro e w3 ⟨rfl, rfl⟩
  clear hW2
  obtain ⟨p0, p1, p2, p3, p4⟩ := Q2.out.rp.pat
  go_wp2_with fail
  go_quiet ((go_at_call 64; exact quietR (rwithin_any _ _ _)))
  clear p0 p1 p2 p3 p4
  have Q2' := Lib.hid (Q2.out.drewN nq)
  generalize hW2 : W2.drewN nq = W2' at *
  clear hW2 Q2
  obtain ⟨p0, p1, p2, p3, p4⟩ := Q2'.out.rp.pat
  have f1 := Q2'.out.rp.rb.fz 1
  have hbrW := Q2'.out.rp.rb.lt
  obtain ⟨c0, c1, c2, c3, c4, c5⟩ := Q2'.out.rp.rb.at
  go_wp2_with fail
  have Q3 := Lib.hid (Q2'.out.next hbr hbp (Q2'.out.rp.set1 ((k : Int) + 1)) (.left (grown_set (grown_refl _ _) 1 _)))
  generalize hW3 : W2'.setCell ⟨br, 1, none⟩ (.int .i64 ((k : Int) + 1)) = W3 at *
  clear hW3 p0 p1 p2 p3 p4 c0 c1 c2 c3 c4 c5 f1 hbrW Q2'
  refine (rword_at br toks lv _ (k + 1) (-1) 0 0 _ (by simpa using Q3.out.rp.rb)).mono ?_
  rintro e w4 ⟨rfl, m4, rfl⟩
  have Q4 := Lib.hid (Q3.out.drewN m4)
  generalize hW4 : W3.drewN m4 = W4 at *
  clear hW4 Q3
  go_wp2_with fail
  refine (rrule_any _ _).mono ?_
  rintro e W5 ⟨rfl, hb5⟩
  have Q5 := Lib.hid (Q4.out.below hbr hbp hb5)
  clear hb5 Q4
  rw [show ruleI (ByteArray.mk (textAt toks (k + 1)).toArray).data.toList = rr from HRR.out]
  have Q6 := Lib.hid (Q5.out.below hbr hbp (below_alloc W5 (.cells #[.int .i64 rr, .int .i64 0, .slice none 0 0] 24)))
  obtain ⟨p0, p1, p2, p3, p4⟩ := Q6.out.rp.pat
  go_wp2_with fail
  refine (rkind_any br toks lv _ (k + 1) (-1) 0 0 _ (by simpa using Q6.out.rp.rb)).mono ?_
  rintro e w6 ⟨rfl, m6, rfl⟩
  have Q7 := Lib.hid (Q6.out.drewN m6)
  have hdx : ((W5.alloc (.cells #[.int .i64 rr, .int .i64 0, .slice none 0 0] 24)).drewN m6).heap[W5.heap.size]? = some (.cells #[.int .i64 rr, .int .i64 0, .slice none 0 0] 24 (0, 0)) := new_heap _ _ _
  have HG57 : Hid (Gr2 br bp W5 ((W5.alloc (.cells #[.int .i64 rr, .int .i64 0, .slice none 0 0] 24)).drewN m6)) := Lib.hid ((Gr2.below (below_alloc _ _)).drewN m6)
  have hrw5 : w.heap.size < W5.heap.size := (Array.getElem?_eq_some_iff.1 Q5.out.res).1
  have hbr5 := Q5.out.rp.rb.lt
  have hbp5 := Q5.out.rp.plt
  generalize hW7 : (W5.alloc (.cells #[.int .i64 rr, .int .i64 0, .slice none 0 0] 24)).drewN m6 = W7 at *
  clear hW7 Q6 Q5 p0 p1 p2 p3 p4
  have HDX := Lib.hid hdx
  have d0 : W7.cell? ⟨W5.heap.size, 0, none⟩ = some (.int .i64 rr) := by simp only [World.cell?, hdx]; rfl
  clear hdx
  obtain ⟨p0, p1, p2, p3, p4⟩ := Q7.out.rp.pat
  rcases h4' with h5 | ⟨h5, rfl⟩
  all_goals
    go_wp2_with fail
    clear p0 p1 p2 p3 p4
    have hrp := Q7.out.rp
    obtain ⟨base, hb0, hb2⟩ : ∃ base : Side → World, base .ahead = W7 ∧ base .behind = W7.setCell ⟨br, 2, none⟩ (.int .i64 ((k : Int) + 1)) := ⟨fun b => match b with | .ahead => _ | .behind => _, rfl, rfl⟩
    have q0 : ∀ b, (base b).cell? ⟨bp, 0, none⟩ = some (.pointer (some ⟨br, 0, none⟩)) := fun b => by
      cases b
      · rw [hb0]; exact hrp.pat.1
      · rw [hb2]; exact (hrp.set2 _).pat.1
    have q1 : ∀ b, (base b).cell? ⟨br, 1, none⟩ = some (.int .i64 ((k : Int) + 1)) := fun b => by
      cases b
      · rw [hb0]; exact hrp.rb.at.2.1
      · rw [hb2]; exact (hrp.set2 _).rb.at.2.1
    have HB0 := Lib.hid hb0
    have HB2 := Lib.hid hb2
    clear hb0 hb2 hrp
    refine wp_region_callY_lit 11 base (by kernel_rfl) (by kernel_rfl) (by kernel_rfl) HB0.out.symm ?_
    iterate 11 (refine callY_still rfl rfl (fun K hK => ?_); go_simp; refine hK _ ?_; clear hK K)
    refine callY_call (.tuple #[]) rfl rfl rfl (fun m => ?_) ?_
    · go_simp
      refine (rfail_new br toks lv (.slice none 0 0) _ 0 0 _ _ (by rw [HB0.out]; exact Q7.out.rp.rb.drewN m)).mono ?_
      rintro e w9 ⟨rfl, rfl⟩
      refine ⟨rfl, m, ?_⟩
      rw [HB0.out, HB2.out]
      rfl
    refine yLex_end (fun m => ?_)
    rw [HB2.out]
    have QE := Lib.hid ((Q7.out.next hbr hbp (Q7.out.rp.set2 ((k : Int) + 1)) (.left (grown_set (grown_refl _ _) 2 _))).drewN m)
    have hres := QE.out.res
    have e0 : ((W7.setCell ⟨br, 2, none⟩ (.int .i64 ((k : Int) + 1))).drewN m).cell? ⟨w.heap.size, 0, none⟩ = some (.int .i64 0) := by simp only [World.cell?, hres]; rfl
    have e1 : ((W7.setCell ⟨br, 2, none⟩ (.int .i64 ((k : Int) + 1))).drewN m).cell? ⟨w.heap.size, 1, none⟩ = some (.int .i64 0) := by simp only [World.cell?, hres]; rfl
    have e2 : ((W7.setCell ⟨br, 2, none⟩ (.int .i64 ((k : Int) + 1))).drewN m).cell? ⟨w.heap.size, 2, none⟩ = some (.slice none 0 0) := by simp only [World.cell?, hres]; rfl
    have g0 : ((W7.setCell ⟨br, 2, none⟩ (.int .i64 ((k : Int) + 1))).drewN m).frozen? ⟨w.heap.size, 0, none⟩ = false := by simp only [World.frozen?, hres]; rfl
    have g1 : ((W7.setCell ⟨br, 2, none⟩ (.int .i64 ((k : Int) + 1))).drewN m).frozen? ⟨w.heap.size, 1, none⟩ = false := by simp only [World.frozen?, hres]; rfl
    have g2 : ((W7.setCell ⟨br, 2, none⟩ (.int .i64 ((k : Int) + 1))).drewN m).frozen? ⟨w.heap.size, 2, none⟩ = false := by simp only [World.frozen?, hres]; rfl
    have hlt : w.heap.size < ((W7.setCell ⟨br, 2, none⟩ (.int .i64 ((k : Int) + 1))).drewN m).heap.size := (Array.getElem?_eq_some_iff.1 hres).1
    clear hres q0 q1
    generalize (W7.setCell ⟨br, 2, none⟩ (.int .i64 ((k : Int) + 1))).drewN m = X at *
    go_wp2
    obtain ⟨Y, hY⟩ : ∃ Y, ((X.setCell ⟨w.heap.size, 0, none⟩ (.int .i64 0)).setCell ⟨w.heap.size, 1, none⟩ (.int .i64 0)).setCell ⟨w.heap.size, 2, none⟩ (.slice none 0 0) = Y := ⟨_, rfl⟩
    have hz := zero_end hbr hbp QE.out hY
    rw [hY]
    have u0 : Y.cell? ⟨w.heap.size, 0, none⟩ = some (.int .i64 0) := by simp only [World.cell?, hz.res]; rfl
    have u1 : Y.cell? ⟨w.heap.size, 1, none⟩ = some (.int .i64 0) := by simp only [World.cell?, hz.res]; rfl
    have u2 : Y.cell? ⟨w.heap.size, 2, none⟩ = some (.slice none 0 0) := by simp only [World.cell?, hz.res]; rfl
    exact bodyPost_ret (v := .agg #[.int .i64 0, .int .i64 0, .slice none 0 0]) (by simp [results, Tryd.results48, go_sem, u0, u1, u2]) rfl ⟨0, 0, none, 0, 0, _, _, rfl, hz.rp, hz.gr⟩

end
end Go.Proofs.YtfpiogaakblpeaaDoor

namespace Go.Proofs.YtfpiogaakblpeaaDoor
open Go.RowKit

def OkR (w : World) (br bp : Nat) (toks : List Tok) (lv : Value) (df wf : Nat) (d : DT) (k' n' : Nat) (e : Ending) (w' : World) : Prop :=
  ∃ v, e = .returned (derivV d.rule d.idx v) ∧ RepS w' (fun x => w.heap.size ≤ x) d.kids v ∧ In64 d.rule ∧ In64 d.idx ∧ Rp w' br bp toks lv k' (-1) n' ⟨#[]⟩ df wf ∧ Gr2 br bp w w'
def ResR (w : World) (br bp : Nat) (toks : List Tok) (lv : Value) (df wf : Nat) : Res DT → Ending → World → Prop
  | .ok d k' n' => OkR w br bp toks lv df wf d k' n'
  | .bad k' y => BadR w br bp toks lv df wf k' y
/-- the contract of the reference's deriv at one fuel -/
def RDerivC (br bp : Nat) (toks : List Tok) (lv : Value) (df wf : Nat) (fuel : Nat) : Prop :=
  ∀ (k n deep : Nat) (w : World), Rp w br bp toks lv k (-1) n ⟨#[]⟩ df wf → toks.length < k + fuel → k ≤ toks.length → n ≤ k → deep ≤ k + 1 →
    Calls Tryd.prog 48 #[.pointer (some ⟨bp, 0, none⟩), .int .i64 deep] w
      (ResR w br bp toks lv df wf (derivM ⟨toks, fun m => withinB m df, fun m => withinB m wf⟩ fuel deep k n))

theorem QSt.of {w W : World} {br bp : Nat} {toks : List Tok} {lv : Value} {k0 bad0 n0 k bad n : Int} {wd0 wd : ByteArray} {df wf : Nat} (h0 : Rp w br bp toks lv k0 bad0 n0 wd0 df wf) (g : Gr2 br bp w W)
    (rb : W.heap[br]? = some (.cells (rbCells lv k bad 0 0 (.slice none 0 0)) 83 (0, 0))) (pb : W.heap[bp]? = some (.cells (pbCells br df wf n wd) 86 (0, 0)))
    (res : W.heap[w.heap.size]? = some (.cells #[.int .i64 0, .int .i64 0, .slice none 0 0] 24 (0, 0))) : QSt w br bp toks lv k bad n wd df wf W :=
  ⟨⟨⟨rb, h0.rb.has.gr2 g h0.rb.far h0.pfar, h0.rb.far⟩, pb, h0.pfar, h0.ne⟩, g, res⟩

/-- behind j kids -/
structure LSt (w : World) (br bp : Nat) (toks : List Tok) (lv : Value) (df wf : Nat) (dbox rr : Nat) (ix : Int) (F : Nat → Nat → Res DT) (res : Res (List DT)) (k0 c j : Nat) (rows : List (DT × Value)) (v : Value) (wr : World) : Prop where
  jc : j ≤ c
  len : rows.length = j
  box : wr.heap[dbox]? = some (.cells #[.int .i64 rr, .int .i64 ix, .slice none 0 0] 24 (0, 0))
  own : wr.ownsRow (dbox + 1) 24 3 v rows.length (kidCells rows)
  mode : (∃ kk nn : Nat, res = kidsM F (c - j) kk nn (rows.map Prod.fst) ∧ QSt w br bp toks lv kk (-1) nn ⟨#[]⟩ df wf wr ∧ (∀ p ∈ rows, RepS wr (fun x => dbox < x ∧ some x ≠ v.ownBlock) p.1.kids p.2 ∧ In64 p.1.rule ∧ In64 p.1.idx) ∧ k0 ≤ kk ∧ kk ≤ toks.length ∧ nn ≤ kk) ∨
    (∃ (k' : Nat) (y : Why) (at_ n : Int), res = .bad k' y ∧ QSt w br bp toks lv at_ k' n (wordOf y) df wf wr)

section
variable {w wr w6 w7 : World} {br bp : Nat} {toks : List Tok} {lv : Value} {df wf : Nat} {dbox rr : Nat} {ix : Int} {F : Nat → Nat → Res DT} {res : Res (List DT)} {k0 c j : Nat} {rows : List (DT × Value)} {v : Value} {k n0 n1 : Int} {wd0 : ByteArray}

/-- a table made, or a draw: nothing turns -/
theorem LSt.below (hbr : br < w.heap.size) (hbp : bp < w.heap.size) (h : LSt w br bp toks lv df wf dbox rr ix F res k0 c j rows v wr) (hb : Below wr.heap.size wr w7) : LSt w br bp toks lv df wf dbox rr ix F res k0 c j rows v w7 := by
  refine { jc := h.jc, len := h.len, box := by rw [hb.block _ (Array.getElem?_eq_some_iff.1 h.box).1]; exact h.box, own := h.own.kept (grown_below (r := some wr.heap.size) hb) (.inr (fun he => by have := h.own.lt _ he; omega)), mode := ?_ }
  rcases h.mode with ⟨kk, nn, h1, h2, h3, h4⟩ | ⟨k', y, a, n, h1, h2⟩
  · exact .inl ⟨kk, nn, h1, h2.below hbr hbp hb, fun p hp => ⟨(h3 p hp).1.kept hb.size fun x hx hl => ⟨hb.block x hl, hx⟩, (h3 p hp).2⟩, h4⟩
  · exact .inr ⟨k', y, a, n, h1, h2.below hbr hbp hb⟩

/-- the blocks behind a call and an append -/
theorem LSt.turn (h : LSt w br bp toks lv df wf dbox rr ix F res k0 c j rows v wr) (hg6 : Gr2 br bp wr w6) {o : Obj} (hgrow7 : (w6.alloc o).grownBy w7 v.ownBlock) :
    (∀ x, x < wr.heap.size → x ≠ br → x ≠ bp → some x ≠ v.ownBlock → w7.heap[x]? = wr.heap[x]?) ∧ (∀ x, x < w6.heap.size → some x ≠ v.ownBlock → w7.heap[x]? = w6.heap[x]?) ∧
    wr.heap.size ≤ w6.heap.size ∧ w6.heap.size + 1 ≤ w7.heap.size ∧ (∀ x, v.ownBlock = some x → dbox + 1 ≤ x ∧ x < wr.heap.size) := by
  have hs7 : w6.heap.size + 1 ≤ w7.heap.size := by have := hgrow7.size; simpa using this
  have hB : ∀ x, x < w6.heap.size → some x ≠ v.ownBlock → w7.heap[x]? = w6.heap[x]? := fun x h1 h3 => by
    rw [hgrow7.block x (by simp; omega) h3, Lib.alloc_old _ _ _ h1]
  exact ⟨fun x h1 h2 h3 h4 => by rw [hB x (by have := hg6.size; omega) h4, hg6.block x h1 h2 h3], hB, hg6.size, hs7, fun x hx => h.own.lt x hx⟩

theorem LSt.gr (h0 : Rp w br bp toks lv k n0 n1 wd0 df wf) (hbr : br < w.heap.size) (hbp : bp < w.heap.size) (hwd : w.heap.size < dbox) (h : LSt w br bp toks lv df wf dbox rr ix F res k0 c j rows v wr) (hgw : Gr2 br bp w wr) (hres : wr.heap[w.heap.size]? = some (.cells #[.int .i64 0, .int .i64 0, .slice none 0 0] 24 (0, 0)))
    (hg6 : Gr2 br bp wr w6) {o : Obj} (hgrow7 : (w6.alloc o).grownBy w7 v.ownBlock) {k' bad' n' : Int} {wd' : ByteArray} (hr6 : Rp w6 br bp toks lv k' bad' n' wd' df wf) : QSt w br bp toks lv k' bad' n' wd' df wf w7 := by
  obtain ⟨hA, hB, hs6, hs7, hv⟩ := h.turn hg6 hgrow7
  have hvw : ∀ x, x < w.heap.size → some x ≠ v.ownBlock := fun x hx he => by have := hv x he.symm; omega
  have hsw := hgw.size
  have hltw := (Array.getElem?_eq_some_iff.1 hres).1
  refine QSt.of h0 ⟨?_, ?_, ?_, by omega, fun x h1 h2 h3 => ?_⟩ ?_ ?_ ?_
  · exact (hgrow7.os.trans hg6.os).trans hgw.os
  · exact (hgrow7.tape.trans hg6.tape).trans hgw.tape
  · exact (hgrow7.output.trans hg6.output).trans hgw.output
  · rw [hA x (by omega) h2 h3 (hvw x h1)]; exact hgw.block x h1 h2 h3
  · rw [hB br (by omega) (hvw br hbr)]; exact hr6.rb.cells
  · rw [hB bp (by omega) (hvw bp hbp)]; exact hr6.pb
  · rw [hA _ hltw (by omega) (by omega) (fun he => by have := hv _ he.symm; omega)]; exact hres

theorem LSt.own7 (hbr : br < w.heap.size) (hbp : bp < w.heap.size) (hwd : w.heap.size < dbox) (h : LSt w br bp toks lv df wf dbox rr ix F res k0 c j rows v wr)
    (hg6 : Gr2 br bp wr w6) {o : Obj} (hgrow7 : (w6.alloc o).grownBy w7 v.ownBlock) {g cap : Nat} {pd : DT} {pv : Value}
    (hown7 : w7.ownsRow (dbox + 1) 24 3 (.slice (some ⟨g, 0, none⟩) (rows.length + 1) cap) (rows.length + 1) (kidCells rows ++ [.int .i64 pd.rule, .int .i64 pd.idx, pv])) :
    w7.heap[dbox]? = some (.cells #[.int .i64 rr, .int .i64 ix, .slice none 0 0] 24 (0, 0)) ∧
    w7.ownsRow (dbox + 1) 24 3 (.slice (some ⟨g, 0, none⟩) (rows.length + 1) cap) (rows ++ [(pd, pv)]).length (kidCells (rows ++ [(pd, pv)])) := by
  obtain ⟨hA, hB, hs6, hs7, hv⟩ := h.turn hg6 hgrow7
  refine ⟨?_, ?_⟩
  · rw [hA dbox (Array.getElem?_eq_some_iff.1 h.box).1 (by omega) (by omega) (fun he => by have := hv _ he.symm; omega)]; exact h.box
  · simpa [kidCells_append, kidCells] using hown7

/-- a kid that was read -/
theorem LSt.good (h0 : Rp w br bp toks lv k n0 n1 wd0 df wf) (hbr : br < w.heap.size) (hbp : bp < w.heap.size) (hwd : w.heap.size < dbox) (h : LSt w br bp toks lv df wf dbox rr ix F res k0 c j rows v wr) (hlt : j < c)
    {kk nn k' n' : Nat} (hq : QSt w br bp toks lv kk (-1) nn ⟨#[]⟩ df wf wr) (hkids : ∀ p ∈ rows, RepS wr (fun x => dbox < x ∧ some x ≠ v.ownBlock) p.1.kids p.2 ∧ In64 p.1.rule ∧ In64 p.1.idx)
    {pd : DT} {pv : Value} (hkm : res = kidsM F (c - (j + 1)) k' n' (rows.map Prod.fst ++ [pd])) (hmov : k0 ≤ k' ∧ k' ≤ toks.length ∧ n' ≤ k') (hrep1 : RepS w6 (fun x => wr.heap.size ≤ x) pd.kids pv) (hx1 : In64 pd.rule) (hx2 : In64 pd.idx)
    (hr6 : Rp w6 br bp toks lv k' (-1) n' ⟨#[]⟩ df wf) (hg6 : Gr2 br bp wr w6) {o : Obj} (hgrow7 : (w6.alloc o).grownBy w7 v.ownBlock) {g cap : Nat} (hat7 : v.ownBlock = some g ∨ g = w6.heap.size + 1)
    (hown7 : w7.ownsRow (dbox + 1) 24 3 (.slice (some ⟨g, 0, none⟩) (rows.length + 1) cap) (rows.length + 1) (kidCells rows ++ [.int .i64 pd.rule, .int .i64 pd.idx, pv])) :
    LSt w br bp toks lv df wf dbox rr ix F res k0 c (j + 1) (rows ++ [(pd, pv)]) (.slice (some ⟨g, 0, none⟩) (rows.length + 1) cap) w7 := by
  obtain ⟨hA, hB, hs6, hs7, hv⟩ := h.turn hg6 hgrow7
  obtain ⟨hbox7, hown7'⟩ := h.own7 hbr hbp hwd hg6 hgrow7 hown7
  have hdlt := (Array.getElem?_eq_some_iff.1 h.box).1
  refine { jc := by omega, len := by simp [h.len], box := hbox7, own := hown7', mode := .inl ⟨k', n', by rw [hkm]; simp, h.gr h0 hbr hbp hwd hq.gr hq.res hg6 hgrow7 hr6, ?_, hmov⟩ }
  intro p hp
  rcases List.mem_append.1 hp with hp | hp
  · obtain ⟨h1, h2⟩ := hkids p hp
    refine ⟨h1.kept (by omega) fun x hx hxl => ⟨hA x hxl (by omega) (by omega) hx.2, hx.1, ?_⟩, h2⟩
    simp only [Value.ownBlock]
    rcases hat7 with h' | h'
    · rw [← h']; exact hx.2
    · simp; omega
  · obtain rfl : p = (pd, pv) := by simpa using hp
    refine ⟨hrep1.kept (by omega) fun x hx hxl => ⟨hB x hxl (fun he => by have := hv x he.symm; omega), by omega, ?_⟩, hx1, hx2⟩
    simp only [Value.ownBlock]
    rcases hat7 with h' | h'
    · have := hv g h'; simp; omega
    · simp; omega
/-- one that was not -/
theorem LSt.badly (h0 : Rp w br bp toks lv k n0 n1 wd0 df wf) (hbr : br < w.heap.size) (hbp : bp < w.heap.size) (hwd : w.heap.size < dbox) (h : LSt w br bp toks lv df wf dbox rr ix F res k0 c j rows v wr) (hlt : j < c)
    (hgw : Gr2 br bp w wr) (hres : wr.heap[w.heap.size]? = some (.cells #[.int .i64 0, .int .i64 0, .slice none 0 0] 24 (0, 0)))
    {k' : Nat} {y : Why} {at_ n : Int} (hkm : res = .bad k' y) (hr6 : Rp w6 br bp toks lv at_ k' n (wordOf y) df wf) (hg6 : Gr2 br bp wr w6) {o : Obj} (hgrow7 : (w6.alloc o).grownBy w7 v.ownBlock) {g cap : Nat}
    {r1 i1 : Int} {pv : Value} (hown7 : w7.ownsRow (dbox + 1) 24 3 (.slice (some ⟨g, 0, none⟩) (rows.length + 1) cap) (rows.length + 1) (kidCells rows ++ [.int .i64 r1, .int .i64 i1, pv])) :
    LSt w br bp toks lv df wf dbox rr ix F res k0 c (j + 1) (rows ++ [(.node r1 i1 [], pv)]) (.slice (some ⟨g, 0, none⟩) (rows.length + 1) cap) w7 := by
  obtain ⟨hbox7, hown7'⟩ := h.own7 (pd := .node r1 i1 []) hbr hbp hwd hg6 hgrow7 hown7
  exact { jc := by omega, len := by simp [h.len], box := hbox7, own := hown7', mode := .inr ⟨k', y, at_, n, hkm, h.gr h0 hbr hbp hwd hgw hres hg6 hgrow7 hr6⟩ }

/-- the result laid into its block -/
theorem rok_end {W9 : World} {kk bad nn : Int} {wd : ByteArray} (h0 : Rp w br bp toks lv k n0 n1 wd0 df wf) (hbr : br < w.heap.size) (hbp : bp < w.heap.size) (h : QSt w br bp toks lv kk bad nn wd df wf W9) (r i : Int) (v : Value) :
    ∃ W, ((W9.setCell ⟨w.heap.size, 0, none⟩ (.int .i64 r)).setCell ⟨w.heap.size, 1, none⟩ (.int .i64 i)).setCell ⟨w.heap.size, 2, none⟩ v = W ∧
      W.heap[w.heap.size]? = some (.cells #[.int .i64 r, .int .i64 i, v] 24 (0, 0)) ∧ (∀ x, x ≠ w.heap.size → W.heap[x]? = W9.heap[x]?) ∧ W.heap.size = W9.heap.size ∧ Rp W br bp toks lv kk bad nn wd df wf ∧ Gr2 br bp w W := by
  refine ⟨_, rfl, heap_set (heap_set (heap_set h.res 0 _) 1 _) 2 _, ?_, by simp [World.setCell], ?_⟩
  · intro x hx
    rw [Below.heap_setCell _ _ _ _ hx, Below.heap_setCell _ _ _ _ hx, Below.heap_setCell _ _ _ _ hx]
  · generalize hW : ((W9.setCell ⟨w.heap.size, 0, none⟩ (.int .i64 r)).setCell ⟨w.heap.size, 1, none⟩ (.int .i64 i)).setCell ⟨w.heap.size, 2, none⟩ v = W
    have hx : ∀ x, x ≠ w.heap.size → W.heap[x]? = W9.heap[x]? := fun x hx => by
      rw [← hW, Below.heap_setCell _ _ _ _ hx, Below.heap_setCell _ _ _ _ hx, Below.heap_setCell _ _ _ _ hx]
    have hz : W.heap.size = W9.heap.size := by rw [← hW]; simp [World.setCell]
    have hg : Gr2 br bp w W := ⟨by rw [← hW]; exact h.gr.os, by rw [← hW]; exact h.gr.tape, by rw [← hW]; exact h.gr.output, by rw [hz]; exact h.gr.size, fun x hlt h1 h2 => by rw [hx x (by omega)]; exact h.gr.block x hlt h1 h2⟩
    refine ⟨⟨⟨by rw [hx br (by omega)]; exact h.rp.rb.cells, h0.rb.has.gr2 hg h0.rb.far h0.pfar, h.rp.rb.far⟩, by rw [hx bp (by omega)]; exact h.rp.pb, h.rp.pfar, h.rp.ne⟩, hg⟩
end
end Go.Proofs.YtfpiogaakblpeaaDoor

namespace Go.Proofs.YtfpiogaakblpeaaDoor
open Go.RowKit

theorem ownsRow_gr2 {a c : World} {br bp base size n : Nat} {t : TypeId} {v : Value} {xs : List Value} (h : a.ownsRow base t size v n xs) (h1 : br < base) (h2 : bp < base) (hg : Gr2 br bp a c) : c.ownsRow base t size v n xs := by
  rcases h.2 with ⟨rfl, h0⟩ | ⟨g, cap, cur, rfl, hgb, hrest⟩
  · exact ⟨h.1, .inl ⟨rfl, h0⟩⟩
  · have hlt := h.lt g rfl
    have hx : c.heap[g]? = a.heap[g]? := hg.block g hlt.2 (by omega) (by omega)
    refine ⟨h.1, .inr ⟨g, cap, cur, rfl, hgb, ?_⟩⟩
    rw [hx]; exact hrest

theorem QSt.skip {w W9 W10 : World} {br bp : Nat} {toks : List Tok} {lv : Value} {k bad n k0 b0 n0 : Int} {wd wd0 : ByteArray} {df wf D : Nat} (h : QSt w br bp toks lv k bad n wd df wf W9) (h0 : Rp w br bp toks lv k0 b0 n0 wd0 df wf) (hbr : br < w.heap.size) (hbp : bp < w.heap.size) (hbr5 : br < D) (hbp5 : bp < D) (hw5 : w.heap.size < D)
    (hx : ∀ x, x ≠ D → W10.heap[x]? = W9.heap[x]?) (hs : W10.heap.size = W9.heap.size) (ho : W10.os = W9.os) (ht : W10.tape = W9.tape) (hu : W10.output = W9.output) : QSt w br bp toks lv k bad n wd df wf W10 :=
  .of h0 ⟨ho.trans h.gr.os, ht.trans h.gr.tape, hu.trans h.gr.output, by have := h.gr.size; omega, fun x h1 h2 h3 => by rw [hx x (by omega)]; exact h.gr.block x h1 h2 h3⟩
    (by rw [hx br (by omega)]; exact h.rp.rb.cells) (by rw [hx bp (by omega)]; exact h.rp.pb) (by rw [hx _ (by omega)]; exact h.res)

section
variable (br bp : Nat) (toks : List Tok) (lv : Value) (k : Nat) (df wf : Nat) (deep : Nat) (w : World)

set_option maxHeartbeats 2000000 in
set_option maxRecDepth 100000 in
theorem rderiv_go (fuel n : Nat) (ih : RDerivC br bp toks lv df wf fuel) (h : Rp w br bp toks lv k (-1) n ⟨#[]⟩ df wf) (h1 : kindAt toks k = 1) (h2 : withinB deep df = true) (h3 : withinB ((n : Int) + 1) wf = true) (hnk : n ≤ k) (hdk : deep ≤ k + 1) (hf : toks.length < k + (fuel + 1)) (hl : toks.length ≤ 1099511627776) (htx : ∀ j, (textAt toks j).length ≤ 1099511627776)
    (h4 : kindAt toks (k + 1) = 3) (rr c : Nat) (hrr : ruleI (textAt toks (k + 1)) = rr) (hr0 : rr ≠ 0) (hr28 : rr ≤ 28) (hc : kidsI rr = c) (hc4 : c ≤ 4) (ix : Nat) (hix : ix ≤ 1000000) (res : Res (List DT))
    (hcase : (numbered rr = false ∧ ix = 0 ∧ res = kidsM (derivM ⟨toks, fun m => withinB m df, fun m => withinB m wf⟩ fuel (deep + 1)) c (k + 2) (n + 1) []) ∨ (numbered rr = true ∧ c = 0 ∧ kindAt toks (k + 2) ≠ 4 ∧ res = .bad (k + 2) .parse) ∨
      (numbered rr = true ∧ c = 0 ∧ kindAt toks (k + 2) = 4 ∧ ix = (getN (textAt toks (k + 2))).getD 0 ∧ res = .ok [] (k + 3) (n + 1))) :
    Calls Tryd.prog 48 #[.pointer (some ⟨bp, 0, none⟩), .int .i64 deep] w (ResR w br bp toks lv df wf (closeM toks rr ix res)) := by
  have Q0 := Lib.hid (QSt.start h)
  have hbr := h.rb.lt
  have hbp := h.plt
  have HR0 := Lib.hid h
  have hk := kindAt_lt (l := toks) (k := k) (by omega)
  have hk1 := kindAt_lt (l := toks) (k := k + 1) (by omega)
  have hn : n ≤ 1099511627776 := by omega
  have HV : Hid (((kindAt toks k : Int) != 1) = false) := Lib.hid (by simp; omega)
  have h5 : ((kindAt toks (k + 1) : Int) != 3) = false := by simp; omega
  have HRR := Lib.hid hrr
  have HC := Lib.hid hc
  have HTX := Lib.hid htx
  have HI : Hid (In64 (rr : Int)) := Lib.hid (in64_nat (by omega))
  have HIX : Hid (In64 (ix : Int)) := Lib.hid (in64_nat hix)
  have hrz : ((rr : Int) == 0) = false := by simp; omega
  have HMOV : Hid (∀ k n, k ≤ toks.length → Moves toks k n (derivM ⟨toks, fun m => withinB m df, fun m => withinB m wf⟩ fuel (deep + 1) k n)) := Lib.hid (fun k n hk => derivM_moves ⟨toks, fun m => withinB m df, fun m => withinB m wf⟩ fuel (deep + 1) k n hk)
  have IH : Hid (∀ (k n : Nat) (w : World), Rp w br bp toks lv k (-1) n ⟨#[]⟩ df wf → toks.length < k + fuel → k ≤ toks.length → n ≤ k → deep ≤ k →
    Calls Tryd.prog 48 #[.pointer (some ⟨bp, 0, none⟩), .int .i64 ((deep : Int) + 1)] w (ResR w br bp toks lv df wf (derivM ⟨toks, fun m => withinB m df, fun m => withinB m wf⟩ fuel (deep + 1) k n))) := Lib.hid (fun k n w a1 a2 a3 a4 a5 => ih k n (deep + 1) w a1 a2 a3 a4 (by omega))
  have HCASE := Lib.hid hcase
  obtain ⟨i0, hi, hi0, hi1, hi2⟩ := info_parts Tryd.infoDeriv
  have HINF := Lib.hid (And.intro hi (And.intro hi0 (And.intro hi1 hi2)))
  clear h h1 h4 hrr hc htx ih hcase hi hi0 hi1 hi2
  generalize derivM ⟨toks, fun m => withinB m df, fun m => withinB m wf⟩ fuel (deep + 1) = F at HMOV IH HCASE
  go_enter Tryd.func48, Tryd.ntmps48
  go_wp2_with fail
  refine (pstop_any br bp toks lv (-1) _ _ df wf _ _ Q0.out.rp).mono ?_
  rintro e w1 ⟨rfl, rfl⟩
  obtain ⟨p0, p1, p2, p3, p4⟩ := Q0.out.rp.pat
  go_wp2_with fail
  refine (rkind_any br toks lv _ k (-1) 0 0 _ Q0.out.rp.rb).mono ?_
  rintro e w2 ⟨rfl, m1, rfl⟩
  have Q1 := Lib.hid (Q0.out.drewN m1)
  clear p0 p1 p2 p3 p4
  have hv := HV.out
  generalize hW : (w.alloc (.cells #[.int .i64 0, .int .i64 0, .slice none 0 0] 24)).drewN m1 = W at *
  obtain ⟨p0, p1, p2, p3, p4⟩ := Q1.out.rp.pat
  have f3 := Q1.out.rp.pfz 3
  have hbpW := Q1.out.rp.plt
  have HW1 := Lib.hid hW
  clear hW
  go_wp2_with fail
  have Q2 := Lib.hid (Q1.out.next hbr hbp (Q1.out.rp.setn ((n : Int) + 1)) (.right (grown_set (grown_refl _ _) 3 _)))
  generalize hW2 : W.setCell ⟨bp, 3, none⟩ (.int .i64 ((n : Int) + 1)) = W2 at *
  clear HW1 Q1 p0 p1 p2 p3 p4 f3 hbpW
  refine (rwithin_any _ _ _).mono ?_
  rintro e w3 ⟨rfl, rfl⟩
  clear hW2
  obtain ⟨p0, p1, p2, p3, p4⟩ := Q2.out.rp.pat
  go_wp2_with fail
  go_quiet ((go_at_call 64; exact quietR (rwithin_any _ _ _)))
  clear p0 p1 p2 p3 p4
  have Q2' := Lib.hid (Q2.out.drewN nq)
  generalize hW2 : W2.drewN nq = W2' at *
  clear hW2 Q2
  obtain ⟨p0, p1, p2, p3, p4⟩ := Q2'.out.rp.pat
  have f1 := Q2'.out.rp.rb.fz 1
  have hbrW := Q2'.out.rp.rb.lt
  obtain ⟨c0, c1, c2, c3, c4, c5⟩ := Q2'.out.rp.rb.at
  go_wp2_with fail
  have Q3 := Lib.hid (Q2'.out.next hbr hbp (Q2'.out.rp.set1 ((k : Int) + 1)) (.left (grown_set (grown_refl _ _) 1 _)))
  generalize hW3 : W2'.setCell ⟨br, 1, none⟩ (.int .i64 ((k : Int) + 1)) = W3 at *
  clear hW3 p0 p1 p2 p3 p4 c0 c1 c2 c3 c4 c5 f1 hbrW Q2'
  refine (rword_at br toks lv _ (k + 1) (-1) 0 0 _ (by simpa using Q3.out.rp.rb)).mono ?_
  rintro e w4 ⟨rfl, m4, rfl⟩
  have Q4 := Lib.hid (Q3.out.drewN m4)
  generalize hW4 : W3.drewN m4 = W4 at *
  clear hW4 Q3
  go_wp2_with fail
  refine (rrule_any _ _).mono ?_
  rintro e W5 ⟨rfl, hb5⟩
  have Q5 := Lib.hid (Q4.out.below hbr hbp hb5)
  clear hb5 Q4
  rw [show ruleI (ByteArray.mk (textAt toks (k + 1)).toArray).data.toList = rr from HRR.out]
  have Q6 := Lib.hid (Q5.out.below hbr hbp (below_alloc W5 (.cells #[.int .i64 rr, .int .i64 0, .slice none 0 0] 24)))
  obtain ⟨p0, p1, p2, p3, p4⟩ := Q6.out.rp.pat
  go_wp2_with fail
  refine (rkind_any br toks lv _ (k + 1) (-1) 0 0 _ (by simpa using Q6.out.rp.rb)).mono ?_
  rintro e w6 ⟨rfl, m6, rfl⟩
  have Q7 := Lib.hid (Q6.out.drewN m6)
  have hdx : ((W5.alloc (.cells #[.int .i64 rr, .int .i64 0, .slice none 0 0] 24)).drewN m6).heap[W5.heap.size]? = some (.cells #[.int .i64 rr, .int .i64 0, .slice none 0 0] 24 (0, 0)) := new_heap _ _ _
  have HG57 : Hid (Gr2 br bp W5 ((W5.alloc (.cells #[.int .i64 rr, .int .i64 0, .slice none 0 0] 24)).drewN m6)) := Lib.hid ((Gr2.below (below_alloc _ _)).drewN m6)
  have hrw5 : w.heap.size < W5.heap.size := (Array.getElem?_eq_some_iff.1 Q5.out.res).1
  have hbr5 := Q5.out.rp.rb.lt
  have hbp5 := Q5.out.rp.plt
  generalize hW7 : (W5.alloc (.cells #[.int .i64 rr, .int .i64 0, .slice none 0 0] 24)).drewN m6 = W7 at *
  clear hW7 Q6 Q5 p0 p1 p2 p3 p4
  have HDX := Lib.hid hdx
  have d0 : W7.cell? ⟨W5.heap.size, 0, none⟩ = some (.int .i64 rr) := by simp only [World.cell?, hdx]; rfl
  clear hdx
  obtain ⟨p0, p1, p2, p3, p4⟩ := Q7.out.rp.pat
  have f1 := Q7.out.rp.rb.fz 1
  have hbrW := Q7.out.rp.rb.lt
  obtain ⟨c0, c1, c2, c3, c4, c5⟩ := Q7.out.rp.rb.at
  go_wp2_with fail
  have Q8 : Hid (QSt w br bp toks lv ((k + 2 : Nat) : Int) (-1) ((n + 1 : Nat) : Int) ⟨#[]⟩ df wf (W7.setCell ⟨br, 1, none⟩ (.int .i64 ((k : Int) + 1 + 1)))) := Lib.hid (by
    have := Q7.out.next hbr hbp (Q7.out.rp.set1 ((k : Int) + 1 + 1)) (.left (grown_set (grown_refl _ _) 1 _))
    simpa [Int.add_assoc] using this)
  have HDX8 : Hid ((W7.setCell ⟨br, 1, none⟩ (.int .i64 ((k : Int) + 1 + 1))).heap[W5.heap.size]? = some (.cells #[.int .i64 rr, .int .i64 0, .slice none 0 0] 24 (0, 0))) := Lib.hid (by
    rw [Below.heap_setCell _ _ _ _ (show W5.heap.size ≠ br by omega)]; exact HDX.out)
  generalize hW8 : W7.setCell ⟨br, 1, none⟩ (.int .i64 ((k : Int) + 1 + 1)) = W8 at *
  clear hW8 d0 p0 p1 p2 p3 p4 f1 hbrW c0 c1 c2 c3 c4 c5 Q7 HG57 HDX
  refine (numbered_any _ _).mono ?_
  rintro e w9 ⟨rfl, rfl⟩
  rcases HCASE.out with ⟨hnum, hix0, hres⟩ | ⟨hnum, hc0, h6, hres⟩ | ⟨hnum, hc0, h6, hix6, hres⟩
  · rw [hnum]
    obtain ⟨ib, hib⟩ : ∃ ib : Int, ib = 0 := ⟨_, rfl⟩
    have HIXB : Hid (∀ (r : List DT) (a b : Nat), res = .ok r a b → ib = (ix : Int)) := Lib.hid (fun _ _ _ _ => by rw [hib, hix0]; rfl)
    have L0 : Hid (LSt w br bp toks lv df wf W5.heap.size rr ib F res (k + 2) c 0 [] (.slice none 0 0) W8) := Lib.hid
      { jc := Nat.zero_le _, len := rfl, box := by rw [hib]; exact HDX8.out, own := World.ownsRow_nil _ _ _ _, mode := .inl ⟨k + 2, n + 1, hres, Q8.out, fun p hp => by simp at hp, Nat.le_refl _, by omega, by omega⟩ }
    clear hres hnum hix0 hib HCASE HDX8
    go_wp2_with fail
    go_loopw [6, 7] (fun v ixv wr => ∃ (j : Nat) (rows : List (DT × Value)), ixv = .int .i64 j ∧ LSt w br bp toks lv df wf W5.heap.size rr ib F res (k + 2) c j rows v wr) (fun _ i _ => c - (intOf i).toNat)
    case atStart => exact ⟨0, [], rfl, L0.out⟩
    case round =>
      obtain ⟨j, rows, rfl, hL⟩ := hrel
      have hbox := hL.box
      have hjc := hL.jc
      have hlen := hL.len
      have d0 : wr.cell? ⟨W5.heap.size, 0, none⟩ = some (.int .i64 rr) := by simp only [World.cell?, hbox]; rfl
      have HL0 := Lib.hid hL
      have hrl : rows.length ≤ 4 := by omega
      clear hL hbox hlen
      go_wp2_with fail
      refine (rkids_any _ _ HI.out).mono ?_
      rintro e w5 ⟨rfl, hb5⟩
      have HL := Lib.hid (HL0.out.below hbr hbp hb5)
      rw [HC.out]
      clear hb5 d0
      by_cases hlt : j < c
      · rcases HL.out.mode with ⟨kk, nn, hres, hq, hkids, hk0, hkl, hnk⟩ | ⟨k', y, at_, n', hres, hq⟩
        · cases hF : F kk nn with
          | bad k' y =>
            have HRES : Hid (res = .bad k' y) := Lib.hid (by
              rw [hres, show c - j = (c - j - 1) + 1 by omega]
              simp only [kidsM, hF])
            have HCALL : Hid (Calls Tryd.prog 48 #[.pointer (some ⟨bp, 0, none⟩), .int .i64 ((deep : Int) + 1)] w5 (BadR w5 br bp toks lv df wf k' y)) := Lib.hid (by
              have := IH.out kk nn w5 hq.rp (by omega) hkl hnk (by omega)
              rw [hF] at this
              exact this)
            have HQ := Lib.hid (And.intro hq.gr hq.res)
            clear hF hres hq hkids
            go_wp2_with fail
            refine HCALL.out.mono ?_
            rintro e w6 ⟨r1, i1, a1, l1, c1, at1, n1, rfl, hr6, hg6⟩
            unfold derivV
            obtain ⟨hi, hi0, hi1, hi2⟩ := HINF.out
            go_wp2_with (at_builtin; go_must (refine wpList_append_lies _ rfl (.tmp 149) (.tmp 154) 22 rfl (W5.heap.size + 1) 24 i0 _ 3 40 Tryd.underlying22 hi hi0 hi1 hi2 rfl (by decide) _ rows.length (kidCells rows) rfl ?own ⟨w6.heap.size, 0, none⟩ 1 1 [.int .i64 r1, .int .i64 i1, .slice a1 l1 c1] rfl rfl ?news ?one (by decide) ?c3 ?c4 ?c5 (w6.heap.size + 1) (by simp) ?_))
            case own => exact (ownsRow_gr2 HL.out.own (by omega) (by omega) hg6).alloc _
            case news => exact World.news_of_block (cs := #[.int .i64 r1, .int .i64 i1, .slice a1 l1 c1]) (t := 24) (fr := (0, 0)) (heap_alloc_new w6 _)
            case one => simp [Value.oneCell']
            case c3 => unfold maxLen; omega
            case c4 => omega
            case c5 => have := hg6.size; have := (Array.getElem?_eq_some_iff.1 HL.out.box).1; simp; omega
            intro g cap w7 hown7 hgrow7 hat7 hlt7
            clear hi hi0 hi1 hi2
            have L1 := Lib.hid (LSt.badly HR0.out hbr hbp hrw5 HL.out hlt HQ.out.1 HQ.out.2 HRES.out hr6 hg6 hgrow7 hown7)
            clear hr6 hg6 hown7 hgrow7 hat7 hlt7
            go_wp2
            go_roundw
            case rel => exact ⟨j + 1, _, by go_num, L1.out⟩
            case measure => simp [intOf]; omega
          | ok d k' n' =>
            have hmov := HMOV.out kk nn hkl
            rw [hF] at hmov
            simp only [Moves] at hmov
            have HRES : Hid (res = kidsM F (c - (j + 1)) k' n' (rows.map Prod.fst ++ [d])) := Lib.hid (by
              rw [hres, show c - j = (c - (j + 1)) + 1 by omega]
              simp only [kidsM, hF])
            have HCALL : Hid (Calls Tryd.prog 48 #[.pointer (some ⟨bp, 0, none⟩), .int .i64 ((deep : Int) + 1)] w5 (OkR w5 br bp toks lv df wf d k' n')) := Lib.hid (by
              have := IH.out kk nn w5 hq.rp (by omega) hkl hnk (by omega)
              rw [hF] at this
              exact this)
            have HQ := Lib.hid (And.intro hq hkids)
            clear hF hres hq hkids
            go_wp2_with fail
            refine HCALL.out.mono ?_
            rintro e w6 ⟨v1, rfl, hrep1, hx1, hx2, hr6, hg6⟩
            obtain ⟨hl1, a1, c1, rfl⟩ := hrep1.form
            unfold derivV
            obtain ⟨hi, hi0, hi1, hi2⟩ := HINF.out
            go_wp2_with (at_builtin; go_must (refine wpList_append_lies _ rfl (.tmp 149) (.tmp 154) 22 rfl (W5.heap.size + 1) 24 i0 _ 3 40 Tryd.underlying22 hi hi0 hi1 hi2 rfl (by decide) _ rows.length (kidCells rows) rfl ?own ⟨w6.heap.size, 0, none⟩ 1 1 [.int .i64 d.rule, .int .i64 d.idx, .slice a1 d.kids.length c1] rfl rfl ?news ?one (by decide) ?c3 ?c4 ?c5 (w6.heap.size + 1) (by simp) ?_))
            case own => exact (ownsRow_gr2 HL.out.own (by omega) (by omega) hg6).alloc _
            case news => exact World.news_of_block (cs := #[.int .i64 d.rule, .int .i64 d.idx, .slice a1 d.kids.length c1]) (t := 24) (fr := (0, 0)) (heap_alloc_new w6 _)
            case one => simp [Value.oneCell']
            case c3 => unfold maxLen; omega
            case c4 => omega
            case c5 => have := hg6.size; have := (Array.getElem?_eq_some_iff.1 HL.out.box).1; simp; omega
            intro g cap w7 hown7 hgrow7 hat7 hlt7
            clear hi hi0 hi1 hi2
            have L1 := Lib.hid (LSt.good HR0.out hbr hbp hrw5 HL.out hlt HQ.out.1 HQ.out.2 HRES.out (by omega) hrep1 hx1 hx2 hr6 hg6 hgrow7 (by simpa using hat7) hown7)
            clear hr6 hg6 hown7 hgrow7 hat7 hlt7 hrep1 hx1 hx2
            go_wp2
            go_roundw
            case rel => exact ⟨j + 1, _, by go_num, L1.out⟩
            case measure => simp [intOf]; omega
        · have HRES := Lib.hid hres
          have HQ := Lib.hid hq
          clear hres hq
          go_wp2_with fail
          refine (rderiv_stop br bp toks lv k' n' (wordOf y) df wf (deep + 1) w5 at_ (by omega) HQ.out.rp).mono ?_
          rintro e w6 ⟨rfl, hr6, hg6⟩
          unfold derivV
          obtain ⟨hi, hi0, hi1, hi2⟩ := HINF.out
          go_wp2_with (at_builtin; go_must (refine wpList_append_lies _ rfl (.tmp 149) (.tmp 154) 22 rfl (W5.heap.size + 1) 24 i0 _ 3 40 Tryd.underlying22 hi hi0 hi1 hi2 rfl (by decide) _ rows.length (kidCells rows) rfl ?own ⟨w6.heap.size, 0, none⟩ 1 1 [.int .i64 0, .int .i64 0, .slice none 0 0] rfl rfl ?news ?one (by decide) ?c3 ?c4 ?c5 (w6.heap.size + 1) (by simp) ?_))
          case own => exact (ownsRow_gr2 HL.out.own (by omega) (by omega) hg6).alloc _
          case news => exact World.news_of_block (cs := #[.int .i64 0, .int .i64 0, .slice none 0 0]) (t := 24) (fr := (0, 0)) (heap_alloc_new w6 _)
          case one => simp [Value.oneCell']
          case c3 => unfold maxLen; omega
          case c4 => omega
          case c5 => have := hg6.size; have := (Array.getElem?_eq_some_iff.1 HL.out.box).1; simp; omega
          intro g cap w7 hown7 hgrow7 hat7 hlt7
          clear hi hi0 hi1 hi2
          have L1 := Lib.hid (LSt.badly HR0.out hbr hbp hrw5 HL.out hlt HQ.out.gr HQ.out.res HRES.out hr6 hg6 hgrow7 hown7)
          clear hr6 hg6 hown7 hgrow7 hat7 hlt7
          go_wp2
          go_roundw
          case rel => exact ⟨j + 1, _, by go_num, L1.out⟩
          case measure => simp [intOf]; omega
      · have hjc2 : j = c := by omega
        have hrep0 : ∃ a9 l9 c9, u6 = .slice a9 l9 c9 := by
          rcases HL.out.own.2 with ⟨h, _⟩ | ⟨g, cap, cur, h, _⟩
          · exact ⟨_, _, _, h⟩
          · exact ⟨_, _, _, h⟩
        rcases HL.out.mode with ⟨kk, nn, hres, hq, hkids, hk0, hkl, hnk⟩ | ⟨k', y, at_, n', hres, hq⟩
        · have hres2 : res = .ok (rows.map Prod.fst) kk nn := by
            rw [hres, show c - j = 0 by omega]; rfl
          have HIXE := Lib.hid (HIXB.out _ _ _ hres2)
          have hrepS : RepS w5 (fun x => W5.heap.size < x) (rows.map Prod.fst) u6 := repS_of_owns HL.out.own (fun g hg => (HL.out.own.lt g hg).1) (fun p hp => ⟨(hkids p hp).1.kept (Nat.le_refl _) fun x hx _ => ⟨rfl, hx.1⟩, (hkids p hp).2⟩)
          have HREP := Lib.hid hrepS
          have HQ := Lib.hid hq
          have HRES := Lib.hid hres2
          obtain ⟨hl9, a9, c9, rfl⟩ := hrepS.form
          generalize hl9' : (rows.map Prod.fst).length = l9 at *
          clear hres hres2 hq hkids hrepS hrep0 hl9
          by_cases h6 : kindAt toks kk = 2
          · have H6 := Lib.hid h6
            clear h6
            obtain ⟨p0, p1, p2, p3, p4⟩ := HQ.out.rp.pat
            go_wp2_with fail
            refine (rwant_ok br toks lv _ kk 0 0 _ 2 (by decide) H6.out hl HQ.out.rp.rb).mono ?_
            rintro e w9 ⟨rfl, hrb9, hg9, hz9⟩
            have Q9 := Lib.hid (HQ.out.next hbr hbp (HQ.out.rp.moved hrb9 hg9) (.left hg9))
            have HREP9 : Hid (RepS w9 (fun x => W5.heap.size < x) (rows.map Prod.fst) (.slice a9 l9 c9)) := Lib.hid
              (HREP.out.kept hg9.size fun x hx hxl => ⟨hg9.block x hxl (by simp; omega), hx⟩)
            clear p0 p1 p2 p3 p4
            have hdx9 : w9.heap[W5.heap.size]? = some (.cells #[.int .i64 rr, .int .i64 ib, .slice none 0 0] 24 (0, 0)) := by
              rw [hg9.block _ (Array.getElem?_eq_some_iff.1 HL.out.box).1 (by simp; omega)]; exact HL.out.box
            have d0 : w9.cell? ⟨W5.heap.size, 0, none⟩ = some (.int .i64 rr) := by simp only [World.cell?, hdx9]; rfl
            have d1 : w9.cell? ⟨W5.heap.size, 1, none⟩ = some (.int .i64 ib) := by simp only [World.cell?, hdx9]; rfl
            have d2 : w9.cell? ⟨W5.heap.size, 2, none⟩ = some (.slice none 0 0) := by simp only [World.cell?, hdx9]; rfl
            have f2 : w9.frozen? ⟨W5.heap.size, 2, none⟩ = false := by simp only [World.frozen?, hdx9]; rfl
            have hdlt := (Array.getElem?_eq_some_iff.1 hdx9).1
            have hres := Q9.out.res
            have r0 : w9.cell? ⟨w.heap.size, 0, none⟩ = some (.int .i64 0) := by simp only [World.cell?, hres]; rfl
            have r1 : w9.cell? ⟨w.heap.size, 1, none⟩ = some (.int .i64 0) := by simp only [World.cell?, hres]; rfl
            have r2 : w9.cell? ⟨w.heap.size, 2, none⟩ = some (.slice none 0 0) := by simp only [World.cell?, hres]; rfl
            have g0 : w9.frozen? ⟨w.heap.size, 0, none⟩ = false := by simp only [World.frozen?, hres]; rfl
            have g1 : w9.frozen? ⟨w.heap.size, 1, none⟩ = false := by simp only [World.frozen?, hres]; rfl
            have g2 : w9.frozen? ⟨w.heap.size, 2, none⟩ = false := by simp only [World.frozen?, hres]; rfl
            have hlt9 := (Array.getElem?_eq_some_iff.1 hres).1
            have hb10 : Below W5.heap.size w9 (w9.setCell ⟨W5.heap.size, 2, none⟩ (.slice a9 l9 c9)) := (Below.refl W5.heap.size w9).setCell (p := ⟨W5.heap.size, 2, none⟩) (Nat.le_refl _) _
            have HX10 : Hid (∀ x, x ≠ W5.heap.size → (w9.setCell ⟨W5.heap.size, 2, none⟩ (.slice a9 l9 c9)).heap[x]? = w9.heap[x]?) := Lib.hid (fun x hx => Below.heap_setCell _ _ _ _ hx)
            have Q10 := Lib.hid (Q9.out.skip HR0.out hbr hbp hbr5 hbp5 hrw5 HX10.out (by simp [World.setCell]) rfl rfl rfl)
            have HW10 : Hid ((w9.setCell ⟨W5.heap.size, 2, none⟩ (.slice a9 l9 c9)).heap.size = w9.heap.size) := Lib.hid (by simp [World.setCell])
            clear hres hb10 hdx9
            go_wp2
            obtain ⟨W, hW, hWc, hWx, hWs, hrpW, hgW⟩ := rok_end HR0.out hbr hbp Q10.out rr ib (.slice a9 l9 c9)
            rw [hW]
            have e0 : W.cell? ⟨w.heap.size, 0, none⟩ = some (.int .i64 rr) := by simp only [World.cell?, hWc]; rfl
            have e1 : W.cell? ⟨w.heap.size, 1, none⟩ = some (.int .i64 ib) := by simp only [World.cell?, hWc]; rfl
            have e2 : W.cell? ⟨w.heap.size, 2, none⟩ = some (.slice a9 l9 c9) := by simp only [World.cell?, hWc]; rfl
            have HPOST : Hid (ResR w br bp toks lv df wf (closeM toks rr ix res) (.returned (derivV rr ib (.slice a9 l9 c9))) W) := Lib.hid (by
              rw [HRES.out]
              simp only [closeM, H6.out, if_true]
              refine ⟨.slice a9 l9 c9, by rw [HIXE.out]; rfl, ?_, HI.out, HIX.out, by simpa using hrpW, hgW⟩
              exact HREP9.out.kept (by rw [hWs, HW10.out]; exact Nat.le_refl _) fun x hx _ => ⟨by rw [hWx x (by omega), HX10.out x (by omega)], by omega⟩)
            clear hW hWc hWx hWs hrpW hgW
            exact bodyPost_ret (v := .agg #[.int .i64 rr, .int .i64 ib, .slice a9 l9 c9]) (by simp [results, Tryd.results48, go_sem, e0, e1, e2]) rfl HPOST.out
          · have H6 := Lib.hid h6
            clear h6
            obtain ⟨p0, p1, p2, p3, p4⟩ := HQ.out.rp.pat
            go_wp2_with fail
            refine (rwant_bad br toks lv _ kk 0 0 _ 2 H6.out HQ.out.rp.rb).mono ?_
            rintro e w9 ⟨rfl, hrb9, hg9, hz9⟩
            have Q9 := Lib.hid (HQ.out.next hbr hbp (HQ.out.rp.moved hrb9 hg9) (.left hg9))
            clear p0 p1 p2 p3 p4
            have hdx9 : w9.heap[W5.heap.size]? = some (.cells #[.int .i64 rr, .int .i64 ib, .slice none 0 0] 24 (0, 0)) := by
              rw [hg9.block _ (Array.getElem?_eq_some_iff.1 HL.out.box).1 (by simp; omega)]; exact HL.out.box
            have d0 : w9.cell? ⟨W5.heap.size, 0, none⟩ = some (.int .i64 rr) := by simp only [World.cell?, hdx9]; rfl
            have d1 : w9.cell? ⟨W5.heap.size, 1, none⟩ = some (.int .i64 ib) := by simp only [World.cell?, hdx9]; rfl
            have d2 : w9.cell? ⟨W5.heap.size, 2, none⟩ = some (.slice none 0 0) := by simp only [World.cell?, hdx9]; rfl
            have f2 : w9.frozen? ⟨W5.heap.size, 2, none⟩ = false := by simp only [World.frozen?, hdx9]; rfl
            have hdlt := (Array.getElem?_eq_some_iff.1 hdx9).1
            have hres := Q9.out.res
            have r0 : w9.cell? ⟨w.heap.size, 0, none⟩ = some (.int .i64 0) := by simp only [World.cell?, hres]; rfl
            have r1 : w9.cell? ⟨w.heap.size, 1, none⟩ = some (.int .i64 0) := by simp only [World.cell?, hres]; rfl
            have r2 : w9.cell? ⟨w.heap.size, 2, none⟩ = some (.slice none 0 0) := by simp only [World.cell?, hres]; rfl
            have g0 : w9.frozen? ⟨w.heap.size, 0, none⟩ = false := by simp only [World.frozen?, hres]; rfl
            have g1 : w9.frozen? ⟨w.heap.size, 1, none⟩ = false := by simp only [World.frozen?, hres]; rfl
            have g2 : w9.frozen? ⟨w.heap.size, 2, none⟩ = false := by simp only [World.frozen?, hres]; rfl
            have hlt9 := (Array.getElem?_eq_some_iff.1 hres).1
            have hb10 : Below W5.heap.size w9 (w9.setCell ⟨W5.heap.size, 2, none⟩ (.slice a9 l9 c9)) := (Below.refl W5.heap.size w9).setCell (p := ⟨W5.heap.size, 2, none⟩) (Nat.le_refl _) _
            have HX10 : Hid (∀ x, x ≠ W5.heap.size → (w9.setCell ⟨W5.heap.size, 2, none⟩ (.slice a9 l9 c9)).heap[x]? = w9.heap[x]?) := Lib.hid (fun x hx => Below.heap_setCell _ _ _ _ hx)
            have Q10 := Lib.hid (Q9.out.skip HR0.out hbr hbp hbr5 hbp5 hrw5 HX10.out (by simp [World.setCell]) rfl rfl rfl)
            have HW10 : Hid ((w9.setCell ⟨W5.heap.size, 2, none⟩ (.slice a9 l9 c9)).heap.size = w9.heap.size) := Lib.hid (by simp [World.setCell])
            clear hres hb10 hdx9
            go_wp2
            obtain ⟨W, hW, hWc, hWx, hWs, hrpW, hgW⟩ := rok_end HR0.out hbr hbp Q10.out rr ib (.slice a9 l9 c9)
            rw [hW]
            have e0 : W.cell? ⟨w.heap.size, 0, none⟩ = some (.int .i64 rr) := by simp only [World.cell?, hWc]; rfl
            have e1 : W.cell? ⟨w.heap.size, 1, none⟩ = some (.int .i64 ib) := by simp only [World.cell?, hWc]; rfl
            have e2 : W.cell? ⟨w.heap.size, 2, none⟩ = some (.slice a9 l9 c9) := by simp only [World.cell?, hWc]; rfl
            have HPOST : Hid (ResR w br bp toks lv df wf (closeM toks rr ix res) (.returned (derivV rr ib (.slice a9 l9 c9))) W) := Lib.hid (by
              rw [HRES.out]
              simp only [closeM, H6.out, if_false]
              exact ⟨_, _, _, _, _, _, _, rfl, hrpW, hgW⟩)
            clear hW hWc hWx hWs hrpW hgW
            exact bodyPost_ret (v := .agg #[.int .i64 rr, .int .i64 ib, .slice a9 l9 c9]) (by simp [results, Tryd.results48, go_sem, e0, e1, e2]) rfl HPOST.out
        · obtain ⟨a9, l9, c9, rfl⟩ := hrep0
          have HRES := Lib.hid hres
          have HQ := Lib.hid hq
          clear hres hq
          obtain ⟨p0, p1, p2, p3, p4⟩ := HQ.out.rp.pat
          go_wp2_with fail
          refine (rwant_stop br toks lv _ k' 0 0 w5 2 _ (by omega) HQ.out.rp.rb).mono ?_
          rintro e w9 ⟨rfl, rfl⟩
          have Q9 := Lib.hid HQ.out
          have hg9 := grown_refl w9 (some br)
          clear p0 p1 p2 p3 p4
          have hdx9 : w9.heap[W5.heap.size]? = some (.cells #[.int .i64 rr, .int .i64 ib, .slice none 0 0] 24 (0, 0)) := by
            rw [hg9.block _ (Array.getElem?_eq_some_iff.1 HL.out.box).1 (by simp; omega)]; exact HL.out.box
          have d0 : w9.cell? ⟨W5.heap.size, 0, none⟩ = some (.int .i64 rr) := by simp only [World.cell?, hdx9]; rfl
          have d1 : w9.cell? ⟨W5.heap.size, 1, none⟩ = some (.int .i64 ib) := by simp only [World.cell?, hdx9]; rfl
          have d2 : w9.cell? ⟨W5.heap.size, 2, none⟩ = some (.slice none 0 0) := by simp only [World.cell?, hdx9]; rfl
          have f2 : w9.frozen? ⟨W5.heap.size, 2, none⟩ = false := by simp only [World.frozen?, hdx9]; rfl
          have hdlt := (Array.getElem?_eq_some_iff.1 hdx9).1
          have hres := Q9.out.res
          have r0 : w9.cell? ⟨w.heap.size, 0, none⟩ = some (.int .i64 0) := by simp only [World.cell?, hres]; rfl
          have r1 : w9.cell? ⟨w.heap.size, 1, none⟩ = some (.int .i64 0) := by simp only [World.cell?, hres]; rfl
          have r2 : w9.cell? ⟨w.heap.size, 2, none⟩ = some (.slice none 0 0) := by simp only [World.cell?, hres]; rfl
          have g0 : w9.frozen? ⟨w.heap.size, 0, none⟩ = false := by simp only [World.frozen?, hres]; rfl
          have g1 : w9.frozen? ⟨w.heap.size, 1, none⟩ = false := by simp only [World.frozen?, hres]; rfl
          have g2 : w9.frozen? ⟨w.heap.size, 2, none⟩ = false := by simp only [World.frozen?, hres]; rfl
          have hlt9 := (Array.getElem?_eq_some_iff.1 hres).1
          have hb10 : Below W5.heap.size w9 (w9.setCell ⟨W5.heap.size, 2, none⟩ (.slice a9 l9 c9)) := (Below.refl W5.heap.size w9).setCell (p := ⟨W5.heap.size, 2, none⟩) (Nat.le_refl _) _
          have HX10 : Hid (∀ x, x ≠ W5.heap.size → (w9.setCell ⟨W5.heap.size, 2, none⟩ (.slice a9 l9 c9)).heap[x]? = w9.heap[x]?) := Lib.hid (fun x hx => Below.heap_setCell _ _ _ _ hx)
          have Q10 := Lib.hid (Q9.out.skip HR0.out hbr hbp hbr5 hbp5 hrw5 HX10.out (by simp [World.setCell]) rfl rfl rfl)
          have HW10 : Hid ((w9.setCell ⟨W5.heap.size, 2, none⟩ (.slice a9 l9 c9)).heap.size = w9.heap.size) := Lib.hid (by simp [World.setCell])
          clear hres hb10 hdx9
          go_wp2
          obtain ⟨W, hW, hWc, hWx, hWs, hrpW, hgW⟩ := rok_end HR0.out hbr hbp Q10.out rr ib (.slice a9 l9 c9)
          rw [hW]
          have e0 : W.cell? ⟨w.heap.size, 0, none⟩ = some (.int .i64 rr) := by simp only [World.cell?, hWc]; rfl
          have e1 : W.cell? ⟨w.heap.size, 1, none⟩ = some (.int .i64 ib) := by simp only [World.cell?, hWc]; rfl
          have e2 : W.cell? ⟨w.heap.size, 2, none⟩ = some (.slice a9 l9 c9) := by simp only [World.cell?, hWc]; rfl
          have HPOST : Hid (ResR w br bp toks lv df wf (closeM toks rr ix res) (.returned (derivV rr ib (.slice a9 l9 c9))) W) := Lib.hid (by
            rw [HRES.out]
            exact ⟨_, _, _, _, _, _, _, rfl, hrpW, hgW⟩)
          clear hW hWc hWx hWs hrpW hgW
          exact bodyPost_ret (v := .agg #[.int .i64 rr, .int .i64 ib, .slice a9 l9 c9]) (by simp [results, Tryd.results48, go_sem, e0, e1, e2]) rfl HPOST.out
  · rw [hnum]
    have H6 := Lib.hid h6
    obtain ⟨p0, p1, p2, p3, p4⟩ := Q8.out.rp.pat
    clear h6 hnum HCASE
    go_wp2_with fail
    refine (rwant_bad br toks lv _ (k + 2) 0 0 _ 4 H6.out Q8.out.rp.rb).mono ?_
    rintro e w9 ⟨rfl, hrb9, hg9, hz9⟩
    have hdx9 : w9.heap[W5.heap.size]? = some (.cells #[.int .i64 rr, .int .i64 0, .slice none 0 0] 24 (0, 0)) := by
      rw [hg9.block _ (Array.getElem?_eq_some_iff.1 HDX8.out).1 (by simp; omega)]; exact HDX8.out
    have Q9 := Lib.hid (Q8.out.next hbr hbp (Q8.out.rp.moved hrb9 hg9) (.left hg9))
    have HDX9 := Lib.hid hdx9
    clear hrb9 hg9 hz9 p0 p1 p2 p3 p4 HDX8 Q8
    go_wp2_with fail
    refine (refget_any _ _ (by decide)).mono ?_
    rintro e w9' ⟨rfl, rfl⟩
    unfold getRVal
    (try rw [show (ByteArray.mk #[]).data.toList = [] from rfl])
    have d0 : w9.cell? ⟨W5.heap.size, 0, none⟩ = some (.int .i64 rr) := by simp only [World.cell?, hdx9]; rfl
    have d1 : w9.cell? ⟨W5.heap.size, 1, none⟩ = some (.int .i64 0) := by simp only [World.cell?, hdx9]; rfl
    have f1 : w9.frozen? ⟨W5.heap.size, 1, none⟩ = false := by simp only [World.frozen?, hdx9]; rfl
    have hdlt := (Array.getElem?_eq_some_iff.1 hdx9).1
    clear hdx9
    obtain ⟨gb, hgb⟩ : ∃ gb, (getR []).isSome = gb := ⟨_, rfl⟩
    obtain ⟨ib, hib⟩ : ∃ ib : Int, ib = (((getR []).getD 0 : Nat) : Int) := ⟨_, rfl⟩
    rw [hgb, ← hib]
    have HIBE := Lib.hid hib
    clear hgb hib
    go_wp2_with fail
    have HDX10 : Hid ((w9.setCell ⟨W5.heap.size, 1, none⟩ (.int .i64 ib)).heap[W5.heap.size]? = some (.cells #[.int .i64 rr, .int .i64 ib, .slice none 0 0] 24 (0, 0))) := Lib.hid (heap_set HDX9.out 1 _)
    have Q10 := Lib.hid (Q9.out.skip (W10 := w9.setCell ⟨W5.heap.size, 1, none⟩ (.int .i64 ib)) (D := W5.heap.size) HR0.out hbr hbp hbr5 hbp5 hrw5 (fun x hx => Below.heap_setCell _ _ _ _ hx) (by simp [World.setCell]) rfl rfl rfl)
    generalize hw10 : w9.setCell ⟨W5.heap.size, 1, none⟩ (.int .i64 ib) = w10 at *
    clear hw10 d0 d1 f1 hdlt HDX9 Q9
    have HIXB : Hid (∀ (r : List DT) (a b : Nat), res = .ok r a b → ib = (ix : Int)) := Lib.hid (fun _ _ _ h => by rw [hres] at h; cases h)
    have L0 : Hid (LSt w br bp toks lv df wf W5.heap.size rr ib F res (k + 2) c 0 [] (.slice none 0 0) w10) := Lib.hid
      { jc := Nat.zero_le _, len := rfl, box := HDX10.out, own := World.ownsRow_nil _ _ _ _, mode := .inr ⟨k + 2, .parse, _, _, hres, Q10.out⟩ }
    clear hres hc0
    go_loopw [6, 7] (fun v ixv wr => ∃ (j : Nat) (rows : List (DT × Value)), ixv = .int .i64 j ∧ LSt w br bp toks lv df wf W5.heap.size rr ib F res (k + 2) c j rows v wr) (fun _ i _ => c - (intOf i).toNat)
    case atStart => exact ⟨0, [], rfl, L0.out⟩
    case round =>
      obtain ⟨j, rows, rfl, hL⟩ := hrel
      have hbox := hL.box
      have hjc := hL.jc
      have hlen := hL.len
      have d0 : wr.cell? ⟨W5.heap.size, 0, none⟩ = some (.int .i64 rr) := by simp only [World.cell?, hbox]; rfl
      have HL0 := Lib.hid hL
      have hrl : rows.length ≤ 4 := by omega
      clear hL hbox hlen
      go_wp2_with fail
      refine (rkids_any _ _ HI.out).mono ?_
      rintro e w5 ⟨rfl, hb5⟩
      have HL := Lib.hid (HL0.out.below hbr hbp hb5)
      rw [HC.out]
      clear hb5 d0
      by_cases hlt : j < c
      · rcases HL.out.mode with ⟨kk, nn, hres, hq, hkids, hk0, hkl, hnk⟩ | ⟨k', y, at_, n', hres, hq⟩
        · cases hF : F kk nn with
          | bad k' y =>
            have HRES : Hid (res = .bad k' y) := Lib.hid (by
              rw [hres, show c - j = (c - j - 1) + 1 by omega]
              simp only [kidsM, hF])
            have HCALL : Hid (Calls Tryd.prog 48 #[.pointer (some ⟨bp, 0, none⟩), .int .i64 ((deep : Int) + 1)] w5 (BadR w5 br bp toks lv df wf k' y)) := Lib.hid (by
              have := IH.out kk nn w5 hq.rp (by omega) hkl hnk (by omega)
              rw [hF] at this
              exact this)
            have HQ := Lib.hid (And.intro hq.gr hq.res)
            clear hF hres hq hkids
            go_wp2_with fail
            refine HCALL.out.mono ?_
            rintro e w6 ⟨r1, i1, a1, l1, c1, at1, n1, rfl, hr6, hg6⟩
            unfold derivV
            obtain ⟨hi, hi0, hi1, hi2⟩ := HINF.out
            go_wp2_with (at_builtin; go_must (refine wpList_append_lies _ rfl (.tmp 149) (.tmp 154) 22 rfl (W5.heap.size + 1) 24 i0 _ 3 40 Tryd.underlying22 hi hi0 hi1 hi2 rfl (by decide) _ rows.length (kidCells rows) rfl ?own ⟨w6.heap.size, 0, none⟩ 1 1 [.int .i64 r1, .int .i64 i1, .slice a1 l1 c1] rfl rfl ?news ?one (by decide) ?c3 ?c4 ?c5 (w6.heap.size + 1) (by simp) ?_))
            case own => exact (ownsRow_gr2 HL.out.own (by omega) (by omega) hg6).alloc _
            case news => exact World.news_of_block (cs := #[.int .i64 r1, .int .i64 i1, .slice a1 l1 c1]) (t := 24) (fr := (0, 0)) (heap_alloc_new w6 _)
            case one => simp [Value.oneCell']
            case c3 => unfold maxLen; omega
            case c4 => omega
            case c5 => have := hg6.size; have := (Array.getElem?_eq_some_iff.1 HL.out.box).1; simp; omega
            intro g cap w7 hown7 hgrow7 hat7 hlt7
            clear hi hi0 hi1 hi2
            have L1 := Lib.hid (LSt.badly HR0.out hbr hbp hrw5 HL.out hlt HQ.out.1 HQ.out.2 HRES.out hr6 hg6 hgrow7 hown7)
            clear hr6 hg6 hown7 hgrow7 hat7 hlt7
            go_wp2
            go_roundw
            case rel => exact ⟨j + 1, _, by go_num, L1.out⟩
            case measure => simp [intOf]; omega
          | ok d k' n' =>
            have hmov := HMOV.out kk nn hkl
            rw [hF] at hmov
            simp only [Moves] at hmov
            have HRES : Hid (res = kidsM F (c - (j + 1)) k' n' (rows.map Prod.fst ++ [d])) := Lib.hid (by
              rw [hres, show c - j = (c - (j + 1)) + 1 by omega]
              simp only [kidsM, hF])
            have HCALL : Hid (Calls Tryd.prog 48 #[.pointer (some ⟨bp, 0, none⟩), .int .i64 ((deep : Int) + 1)] w5 (OkR w5 br bp toks lv df wf d k' n')) := Lib.hid (by
              have := IH.out kk nn w5 hq.rp (by omega) hkl hnk (by omega)
              rw [hF] at this
              exact this)
            have HQ := Lib.hid (And.intro hq hkids)
            clear hF hres hq hkids
            go_wp2_with fail
            refine HCALL.out.mono ?_
            rintro e w6 ⟨v1, rfl, hrep1, hx1, hx2, hr6, hg6⟩
            obtain ⟨hl1, a1, c1, rfl⟩ := hrep1.form
            unfold derivV
            obtain ⟨hi, hi0, hi1, hi2⟩ := HINF.out
            go_wp2_with (at_builtin; go_must (refine wpList_append_lies _ rfl (.tmp 149) (.tmp 154) 22 rfl (W5.heap.size + 1) 24 i0 _ 3 40 Tryd.underlying22 hi hi0 hi1 hi2 rfl (by decide) _ rows.length (kidCells rows) rfl ?own ⟨w6.heap.size, 0, none⟩ 1 1 [.int .i64 d.rule, .int .i64 d.idx, .slice a1 d.kids.length c1] rfl rfl ?news ?one (by decide) ?c3 ?c4 ?c5 (w6.heap.size + 1) (by simp) ?_))
            case own => exact (ownsRow_gr2 HL.out.own (by omega) (by omega) hg6).alloc _
            case news => exact World.news_of_block (cs := #[.int .i64 d.rule, .int .i64 d.idx, .slice a1 d.kids.length c1]) (t := 24) (fr := (0, 0)) (heap_alloc_new w6 _)
            case one => simp [Value.oneCell']
            case c3 => unfold maxLen; omega
            case c4 => omega
            case c5 => have := hg6.size; have := (Array.getElem?_eq_some_iff.1 HL.out.box).1; simp; omega
            intro g cap w7 hown7 hgrow7 hat7 hlt7
            clear hi hi0 hi1 hi2
            have L1 := Lib.hid (LSt.good HR0.out hbr hbp hrw5 HL.out hlt HQ.out.1 HQ.out.2 HRES.out (by omega) hrep1 hx1 hx2 hr6 hg6 hgrow7 (by simpa using hat7) hown7)
            clear hr6 hg6 hown7 hgrow7 hat7 hlt7 hrep1 hx1 hx2
            go_wp2
            go_roundw
            case rel => exact ⟨j + 1, _, by go_num, L1.out⟩
            case measure => simp [intOf]; omega
        · have HRES := Lib.hid hres
          have HQ := Lib.hid hq
          clear hres hq
          go_wp2_with fail
          refine (rderiv_stop br bp toks lv k' n' (wordOf y) df wf (deep + 1) w5 at_ (by omega) HQ.out.rp).mono ?_
          rintro e w6 ⟨rfl, hr6, hg6⟩
          unfold derivV
          obtain ⟨hi, hi0, hi1, hi2⟩ := HINF.out
          go_wp2_with (at_builtin; go_must (refine wpList_append_lies _ rfl (.tmp 149) (.tmp 154) 22 rfl (W5.heap.size + 1) 24 i0 _ 3 40 Tryd.underlying22 hi hi0 hi1 hi2 rfl (by decide) _ rows.length (kidCells rows) rfl ?own ⟨w6.heap.size, 0, none⟩ 1 1 [.int .i64 0, .int .i64 0, .slice none 0 0] rfl rfl ?news ?one (by decide) ?c3 ?c4 ?c5 (w6.heap.size + 1) (by simp) ?_))
          case own => exact (ownsRow_gr2 HL.out.own (by omega) (by omega) hg6).alloc _
          case news => exact World.news_of_block (cs := #[.int .i64 0, .int .i64 0, .slice none 0 0]) (t := 24) (fr := (0, 0)) (heap_alloc_new w6 _)
          case one => simp [Value.oneCell']
          case c3 => unfold maxLen; omega
          case c4 => omega
          case c5 => have := hg6.size; have := (Array.getElem?_eq_some_iff.1 HL.out.box).1; simp; omega
          intro g cap w7 hown7 hgrow7 hat7 hlt7
          clear hi hi0 hi1 hi2
          have L1 := Lib.hid (LSt.badly HR0.out hbr hbp hrw5 HL.out hlt HQ.out.gr HQ.out.res HRES.out hr6 hg6 hgrow7 hown7)
          clear hr6 hg6 hown7 hgrow7 hat7 hlt7
          go_wp2
          go_roundw
          case rel => exact ⟨j + 1, _, by go_num, L1.out⟩
          case measure => simp [intOf]; omega
      · have hjc2 : j = c := by omega
        have hrep0 : ∃ a9 l9 c9, u6 = .slice a9 l9 c9 := by
          rcases HL.out.own.2 with ⟨h, _⟩ | ⟨g, cap, cur, h, _⟩
          · exact ⟨_, _, _, h⟩
          · exact ⟨_, _, _, h⟩
        rcases HL.out.mode with ⟨kk, nn, hres, hq, hkids, hk0, hkl, hnk⟩ | ⟨k', y, at_, n', hres, hq⟩
        · have hres2 : res = .ok (rows.map Prod.fst) kk nn := by
            rw [hres, show c - j = 0 by omega]; rfl
          have HIXE := Lib.hid (HIXB.out _ _ _ hres2)
          have hrepS : RepS w5 (fun x => W5.heap.size < x) (rows.map Prod.fst) u6 := repS_of_owns HL.out.own (fun g hg => (HL.out.own.lt g hg).1) (fun p hp => ⟨(hkids p hp).1.kept (Nat.le_refl _) fun x hx _ => ⟨rfl, hx.1⟩, (hkids p hp).2⟩)
          have HREP := Lib.hid hrepS
          have HQ := Lib.hid hq
          have HRES := Lib.hid hres2
          obtain ⟨hl9, a9, c9, rfl⟩ := hrepS.form
          generalize hl9' : (rows.map Prod.fst).length = l9 at *
          clear hres hres2 hq hkids hrepS hrep0 hl9
          by_cases h6 : kindAt toks kk = 2
          · have H6 := Lib.hid h6
            clear h6
            obtain ⟨p0, p1, p2, p3, p4⟩ := HQ.out.rp.pat
            go_wp2_with fail
            refine (rwant_ok br toks lv _ kk 0 0 _ 2 (by decide) H6.out hl HQ.out.rp.rb).mono ?_
            rintro e w9 ⟨rfl, hrb9, hg9, hz9⟩
            have Q9 := Lib.hid (HQ.out.next hbr hbp (HQ.out.rp.moved hrb9 hg9) (.left hg9))
            have HREP9 : Hid (RepS w9 (fun x => W5.heap.size < x) (rows.map Prod.fst) (.slice a9 l9 c9)) := Lib.hid
              (HREP.out.kept hg9.size fun x hx hxl => ⟨hg9.block x hxl (by simp; omega), hx⟩)
            clear p0 p1 p2 p3 p4
            have hdx9 : w9.heap[W5.heap.size]? = some (.cells #[.int .i64 rr, .int .i64 ib, .slice none 0 0] 24 (0, 0)) := by
              rw [hg9.block _ (Array.getElem?_eq_some_iff.1 HL.out.box).1 (by simp; omega)]; exact HL.out.box
            have d0 : w9.cell? ⟨W5.heap.size, 0, none⟩ = some (.int .i64 rr) := by simp only [World.cell?, hdx9]; rfl
            have d1 : w9.cell? ⟨W5.heap.size, 1, none⟩ = some (.int .i64 ib) := by simp only [World.cell?, hdx9]; rfl
            have d2 : w9.cell? ⟨W5.heap.size, 2, none⟩ = some (.slice none 0 0) := by simp only [World.cell?, hdx9]; rfl
            have f2 : w9.frozen? ⟨W5.heap.size, 2, none⟩ = false := by simp only [World.frozen?, hdx9]; rfl
            have hdlt := (Array.getElem?_eq_some_iff.1 hdx9).1
            have hres := Q9.out.res
            have r0 : w9.cell? ⟨w.heap.size, 0, none⟩ = some (.int .i64 0) := by simp only [World.cell?, hres]; rfl
            have r1 : w9.cell? ⟨w.heap.size, 1, none⟩ = some (.int .i64 0) := by simp only [World.cell?, hres]; rfl
            have r2 : w9.cell? ⟨w.heap.size, 2, none⟩ = some (.slice none 0 0) := by simp only [World.cell?, hres]; rfl
            have g0 : w9.frozen? ⟨w.heap.size, 0, none⟩ = false := by simp only [World.frozen?, hres]; rfl
            have g1 : w9.frozen? ⟨w.heap.size, 1, none⟩ = false := by simp only [World.frozen?, hres]; rfl
            have g2 : w9.frozen? ⟨w.heap.size, 2, none⟩ = false := by simp only [World.frozen?, hres]; rfl
            have hlt9 := (Array.getElem?_eq_some_iff.1 hres).1
            have hb10 : Below W5.heap.size w9 (w9.setCell ⟨W5.heap.size, 2, none⟩ (.slice a9 l9 c9)) := (Below.refl W5.heap.size w9).setCell (p := ⟨W5.heap.size, 2, none⟩) (Nat.le_refl _) _
            have HX10 : Hid (∀ x, x ≠ W5.heap.size → (w9.setCell ⟨W5.heap.size, 2, none⟩ (.slice a9 l9 c9)).heap[x]? = w9.heap[x]?) := Lib.hid (fun x hx => Below.heap_setCell _ _ _ _ hx)
            have Q10 := Lib.hid (Q9.out.skip HR0.out hbr hbp hbr5 hbp5 hrw5 HX10.out (by simp [World.setCell]) rfl rfl rfl)
            have HW10 : Hid ((w9.setCell ⟨W5.heap.size, 2, none⟩ (.slice a9 l9 c9)).heap.size = w9.heap.size) := Lib.hid (by simp [World.setCell])
            clear hres hb10 hdx9
            go_wp2
            obtain ⟨W, hW, hWc, hWx, hWs, hrpW, hgW⟩ := rok_end HR0.out hbr hbp Q10.out rr ib (.slice a9 l9 c9)
            rw [hW]
            have e0 : W.cell? ⟨w.heap.size, 0, none⟩ = some (.int .i64 rr) := by simp only [World.cell?, hWc]; rfl
            have e1 : W.cell? ⟨w.heap.size, 1, none⟩ = some (.int .i64 ib) := by simp only [World.cell?, hWc]; rfl
            have e2 : W.cell? ⟨w.heap.size, 2, none⟩ = some (.slice a9 l9 c9) := by simp only [World.cell?, hWc]; rfl
            have HPOST : Hid (ResR w br bp toks lv df wf (closeM toks rr ix res) (.returned (derivV rr ib (.slice a9 l9 c9))) W) := Lib.hid (by
              rw [HRES.out]
              simp only [closeM, H6.out, if_true]
              refine ⟨.slice a9 l9 c9, by rw [HIXE.out]; rfl, ?_, HI.out, HIX.out, by simpa using hrpW, hgW⟩
              exact HREP9.out.kept (by rw [hWs, HW10.out]; exact Nat.le_refl _) fun x hx _ => ⟨by rw [hWx x (by omega), HX10.out x (by omega)], by omega⟩)
            clear hW hWc hWx hWs hrpW hgW
            exact bodyPost_ret (v := .agg #[.int .i64 rr, .int .i64 ib, .slice a9 l9 c9]) (by simp [results, Tryd.results48, go_sem, e0, e1, e2]) rfl HPOST.out
          · have H6 := Lib.hid h6
            clear h6
            obtain ⟨p0, p1, p2, p3, p4⟩ := HQ.out.rp.pat
            go_wp2_with fail
            refine (rwant_bad br toks lv _ kk 0 0 _ 2 H6.out HQ.out.rp.rb).mono ?_
            rintro e w9 ⟨rfl, hrb9, hg9, hz9⟩
            have Q9 := Lib.hid (HQ.out.next hbr hbp (HQ.out.rp.moved hrb9 hg9) (.left hg9))
            clear p0 p1 p2 p3 p4
            have hdx9 : w9.heap[W5.heap.size]? = some (.cells #[.int .i64 rr, .int .i64 ib, .slice none 0 0] 24 (0, 0)) := by
              rw [hg9.block _ (Array.getElem?_eq_some_iff.1 HL.out.box).1 (by simp; omega)]; exact HL.out.box
            have d0 : w9.cell? ⟨W5.heap.size, 0, none⟩ = some (.int .i64 rr) := by simp only [World.cell?, hdx9]; rfl
            have d1 : w9.cell? ⟨W5.heap.size, 1, none⟩ = some (.int .i64 ib) := by simp only [World.cell?, hdx9]; rfl
            have d2 : w9.cell? ⟨W5.heap.size, 2, none⟩ = some (.slice none 0 0) := by simp only [World.cell?, hdx9]; rfl
            have f2 : w9.frozen? ⟨W5.heap.size, 2, none⟩ = false := by simp only [World.frozen?, hdx9]; rfl
            have hdlt := (Array.getElem?_eq_some_iff.1 hdx9).1
            have hres := Q9.out.res
            have r0 : w9.cell? ⟨w.heap.size, 0, none⟩ = some (.int .i64 0) := by simp only [World.cell?, hres]; rfl
            have r1 : w9.cell? ⟨w.heap.size, 1, none⟩ = some (.int .i64 0) := by simp only [World.cell?, hres]; rfl
            have r2 : w9.cell? ⟨w.heap.size, 2, none⟩ = some (.slice none 0 0) := by simp only [World.cell?, hres]; rfl
            have g0 : w9.frozen? ⟨w.heap.size, 0, none⟩ = false := by simp only [World.frozen?, hres]; rfl
            have g1 : w9.frozen? ⟨w.heap.size, 1, none⟩ = false := by simp only [World.frozen?, hres]; rfl
            have g2 : w9.frozen? ⟨w.heap.size, 2, none⟩ = false := by simp only [World.frozen?, hres]; rfl
            have hlt9 := (Array.getElem?_eq_some_iff.1 hres).1
            have hb10 : Below W5.heap.size w9 (w9.setCell ⟨W5.heap.size, 2, none⟩ (.slice a9 l9 c9)) := (Below.refl W5.heap.size w9).setCell (p := ⟨W5.heap.size, 2, none⟩) (Nat.le_refl _) _
            have HX10 : Hid (∀ x, x ≠ W5.heap.size → (w9.setCell ⟨W5.heap.size, 2, none⟩ (.slice a9 l9 c9)).heap[x]? = w9.heap[x]?) := Lib.hid (fun x hx => Below.heap_setCell _ _ _ _ hx)
            have Q10 := Lib.hid (Q9.out.skip HR0.out hbr hbp hbr5 hbp5 hrw5 HX10.out (by simp [World.setCell]) rfl rfl rfl)
            have HW10 : Hid ((w9.setCell ⟨W5.heap.size, 2, none⟩ (.slice a9 l9 c9)).heap.size = w9.heap.size) := Lib.hid (by simp [World.setCell])
            clear hres hb10 hdx9
            go_wp2
            obtain ⟨W, hW, hWc, hWx, hWs, hrpW, hgW⟩ := rok_end HR0.out hbr hbp Q10.out rr ib (.slice a9 l9 c9)
            rw [hW]
            have e0 : W.cell? ⟨w.heap.size, 0, none⟩ = some (.int .i64 rr) := by simp only [World.cell?, hWc]; rfl
            have e1 : W.cell? ⟨w.heap.size, 1, none⟩ = some (.int .i64 ib) := by simp only [World.cell?, hWc]; rfl
            have e2 : W.cell? ⟨w.heap.size, 2, none⟩ = some (.slice a9 l9 c9) := by simp only [World.cell?, hWc]; rfl
            have HPOST : Hid (ResR w br bp toks lv df wf (closeM toks rr ix res) (.returned (derivV rr ib (.slice a9 l9 c9))) W) := Lib.hid (by
              rw [HRES.out]
              simp only [closeM, H6.out, if_false]
              exact ⟨_, _, _, _, _, _, _, rfl, hrpW, hgW⟩)
            clear hW hWc hWx hWs hrpW hgW
            exact bodyPost_ret (v := .agg #[.int .i64 rr, .int .i64 ib, .slice a9 l9 c9]) (by simp [results, Tryd.results48, go_sem, e0, e1, e2]) rfl HPOST.out
        · obtain ⟨a9, l9, c9, rfl⟩ := hrep0
          have HRES := Lib.hid hres
          have HQ := Lib.hid hq
          clear hres hq
          obtain ⟨p0, p1, p2, p3, p4⟩ := HQ.out.rp.pat
          go_wp2_with fail
          refine (rwant_stop br toks lv _ k' 0 0 w5 2 _ (by omega) HQ.out.rp.rb).mono ?_
          rintro e w9 ⟨rfl, rfl⟩
          have Q9 := Lib.hid HQ.out
          have hg9 := grown_refl w9 (some br)
          clear p0 p1 p2 p3 p4
          have hdx9 : w9.heap[W5.heap.size]? = some (.cells #[.int .i64 rr, .int .i64 ib, .slice none 0 0] 24 (0, 0)) := by
            rw [hg9.block _ (Array.getElem?_eq_some_iff.1 HL.out.box).1 (by simp; omega)]; exact HL.out.box
          have d0 : w9.cell? ⟨W5.heap.size, 0, none⟩ = some (.int .i64 rr) := by simp only [World.cell?, hdx9]; rfl
          have d1 : w9.cell? ⟨W5.heap.size, 1, none⟩ = some (.int .i64 ib) := by simp only [World.cell?, hdx9]; rfl
          have d2 : w9.cell? ⟨W5.heap.size, 2, none⟩ = some (.slice none 0 0) := by simp only [World.cell?, hdx9]; rfl
          have f2 : w9.frozen? ⟨W5.heap.size, 2, none⟩ = false := by simp only [World.frozen?, hdx9]; rfl
          have hdlt := (Array.getElem?_eq_some_iff.1 hdx9).1
          have hres := Q9.out.res
          have r0 : w9.cell? ⟨w.heap.size, 0, none⟩ = some (.int .i64 0) := by simp only [World.cell?, hres]; rfl
          have r1 : w9.cell? ⟨w.heap.size, 1, none⟩ = some (.int .i64 0) := by simp only [World.cell?, hres]; rfl
          have r2 : w9.cell? ⟨w.heap.size, 2, none⟩ = some (.slice none 0 0) := by simp only [World.cell?, hres]; rfl
          have g0 : w9.frozen? ⟨w.heap.size, 0, none⟩ = false := by simp only [World.frozen?, hres]; rfl
          have g1 : w9.frozen? ⟨w.heap.size, 1, none⟩ = false := by simp only [World.frozen?, hres]; rfl
          have g2 : w9.frozen? ⟨w.heap.size, 2, none⟩ = false := by simp only [World.frozen?, hres]; rfl
          have hlt9 := (Array.getElem?_eq_some_iff.1 hres).1
          have hb10 : Below W5.heap.size w9 (w9.setCell ⟨W5.heap.size, 2, none⟩ (.slice a9 l9 c9)) := (Below.refl W5.heap.size w9).setCell (p := ⟨W5.heap.size, 2, none⟩) (Nat.le_refl _) _
          have HX10 : Hid (∀ x, x ≠ W5.heap.size → (w9.setCell ⟨W5.heap.size, 2, none⟩ (.slice a9 l9 c9)).heap[x]? = w9.heap[x]?) := Lib.hid (fun x hx => Below.heap_setCell _ _ _ _ hx)
          have Q10 := Lib.hid (Q9.out.skip HR0.out hbr hbp hbr5 hbp5 hrw5 HX10.out (by simp [World.setCell]) rfl rfl rfl)
          have HW10 : Hid ((w9.setCell ⟨W5.heap.size, 2, none⟩ (.slice a9 l9 c9)).heap.size = w9.heap.size) := Lib.hid (by simp [World.setCell])
          clear hres hb10 hdx9
          go_wp2
          obtain ⟨W, hW, hWc, hWx, hWs, hrpW, hgW⟩ := rok_end HR0.out hbr hbp Q10.out rr ib (.slice a9 l9 c9)
          rw [hW]
          have e0 : W.cell? ⟨w.heap.size, 0, none⟩ = some (.int .i64 rr) := by simp only [World.cell?, hWc]; rfl
          have e1 : W.cell? ⟨w.heap.size, 1, none⟩ = some (.int .i64 ib) := by simp only [World.cell?, hWc]; rfl
          have e2 : W.cell? ⟨w.heap.size, 2, none⟩ = some (.slice a9 l9 c9) := by simp only [World.cell?, hWc]; rfl
          have HPOST : Hid (ResR w br bp toks lv df wf (closeM toks rr ix res) (.returned (derivV rr ib (.slice a9 l9 c9))) W) := Lib.hid (by
            rw [HRES.out]
            exact ⟨_, _, _, _, _, _, _, rfl, hrpW, hgW⟩)
          clear hW hWc hWx hWs hrpW hgW
          exact bodyPost_ret (v := .agg #[.int .i64 rr, .int .i64 ib, .slice a9 l9 c9]) (by simp [results, Tryd.results48, go_sem, e0, e1, e2]) rfl HPOST.out
  · rw [hnum]
    have H6 := Lib.hid h6
    have hk2 := kindAt_lt (l := toks) (k := k + 2) (by omega)
    obtain ⟨p0, p1, p2, p3, p4⟩ := Q8.out.rp.pat
    clear h6 hnum HCASE
    go_wp2_with fail
    refine (rwant_ok br toks lv _ (k + 2) 0 0 _ 4 (by decide) H6.out hl Q8.out.rp.rb).mono ?_
    rintro e w9 ⟨rfl, hrb9, hg9, hz9⟩
    have hdx9 : w9.heap[W5.heap.size]? = some (.cells #[.int .i64 rr, .int .i64 0, .slice none 0 0] 24 (0, 0)) := by
      rw [hg9.block _ (Array.getElem?_eq_some_iff.1 HDX8.out).1 (by simp; omega)]; exact HDX8.out
    have Q9 := Lib.hid (Q8.out.next hbr hbp (Q8.out.rp.moved hrb9 hg9) (.left hg9))
    have HDX9 := Lib.hid hdx9
    clear hrb9 hg9 hz9 p0 p1 p2 p3 p4 HDX8 Q8
    go_wp2_with fail
    refine (refget_any _ _ (by have := HTX.out (k + 2); unfold maxLen; show (textAt toks (k + 2)).toArray.size ≤ _; simp; omega)).mono ?_
    rintro e w9' ⟨rfl, rfl⟩
    unfold getRVal
    (try rw [show (ByteArray.mk #[]).data.toList = [] from rfl])
    have d0 : w9.cell? ⟨W5.heap.size, 0, none⟩ = some (.int .i64 rr) := by simp only [World.cell?, hdx9]; rfl
    have d1 : w9.cell? ⟨W5.heap.size, 1, none⟩ = some (.int .i64 0) := by simp only [World.cell?, hdx9]; rfl
    have f1 : w9.frozen? ⟨W5.heap.size, 1, none⟩ = false := by simp only [World.frozen?, hdx9]; rfl
    have hdlt := (Array.getElem?_eq_some_iff.1 hdx9).1
    clear hdx9
    obtain ⟨gb, hgb⟩ : ∃ gb, (getR (ByteArray.mk (textAt toks (k + 2)).toArray).data.toList).isSome = gb := ⟨_, rfl⟩
    obtain ⟨ib, hib⟩ : ∃ ib : Int, ib = (((getR (ByteArray.mk (textAt toks (k + 2)).toArray).data.toList).getD 0 : Nat) : Int) := ⟨_, rfl⟩
    rw [hgb, ← hib]
    have HIBE := Lib.hid hib
    clear hgb hib
    go_wp2_with fail
    have HDX10 : Hid ((w9.setCell ⟨W5.heap.size, 1, none⟩ (.int .i64 ib)).heap[W5.heap.size]? = some (.cells #[.int .i64 rr, .int .i64 ib, .slice none 0 0] 24 (0, 0))) := Lib.hid (heap_set HDX9.out 1 _)
    have Q10 := Lib.hid (Q9.out.skip (W10 := w9.setCell ⟨W5.heap.size, 1, none⟩ (.int .i64 ib)) (D := W5.heap.size) HR0.out hbr hbp hbr5 hbp5 hrw5 (fun x hx => Below.heap_setCell _ _ _ _ hx) (by simp [World.setCell]) rfl rfl rfl)
    generalize hw10 : w9.setCell ⟨W5.heap.size, 1, none⟩ (.int .i64 ib) = w10 at *
    clear hw10 d0 d1 f1 hdlt HDX9 Q9
    have HIXB : Hid (∀ (r : List DT) (a b : Nat), res = .ok r a b → ib = (ix : Int)) := Lib.hid (fun _ _ _ _ => by rw [HIBE.out, hix6, getN_eq_getR])
    have L0 : Hid (LSt w br bp toks lv df wf W5.heap.size rr ib F res (k + 2) c 0 [] (.slice none 0 0) w10) := Lib.hid
      { jc := Nat.zero_le _, len := rfl, box := HDX10.out, own := World.ownsRow_nil _ _ _ _, mode := .inl ⟨k + 3, n + 1, by rw [hres, hc0]; rfl, by simpa [Int.add_assoc] using Q10.out, fun p hp => by simp at hp, by omega, by omega, by omega⟩ }
    clear hres hc0 hix6
    go_loopw [6, 7] (fun v ixv wr => ∃ (j : Nat) (rows : List (DT × Value)), ixv = .int .i64 j ∧ LSt w br bp toks lv df wf W5.heap.size rr ib F res (k + 2) c j rows v wr) (fun _ i _ => c - (intOf i).toNat)
    case atStart => exact ⟨0, [], rfl, L0.out⟩
    case round =>
      obtain ⟨j, rows, rfl, hL⟩ := hrel
      have hbox := hL.box
      have hjc := hL.jc
      have hlen := hL.len
      have d0 : wr.cell? ⟨W5.heap.size, 0, none⟩ = some (.int .i64 rr) := by simp only [World.cell?, hbox]; rfl
      have HL0 := Lib.hid hL
      have hrl : rows.length ≤ 4 := by omega
      clear hL hbox hlen
      go_wp2_with fail
      refine (rkids_any _ _ HI.out).mono ?_
      rintro e w5 ⟨rfl, hb5⟩
      have HL := Lib.hid (HL0.out.below hbr hbp hb5)
      rw [HC.out]
      clear hb5 d0
      by_cases hlt : j < c
      · rcases HL.out.mode with ⟨kk, nn, hres, hq, hkids, hk0, hkl, hnk⟩ | ⟨k', y, at_, n', hres, hq⟩
        · cases hF : F kk nn with
          | bad k' y =>
            have HRES : Hid (res = .bad k' y) := Lib.hid (by
              rw [hres, show c - j = (c - j - 1) + 1 by omega]
              simp only [kidsM, hF])
            have HCALL : Hid (Calls Tryd.prog 48 #[.pointer (some ⟨bp, 0, none⟩), .int .i64 ((deep : Int) + 1)] w5 (BadR w5 br bp toks lv df wf k' y)) := Lib.hid (by
              have := IH.out kk nn w5 hq.rp (by omega) hkl hnk (by omega)
              rw [hF] at this
              exact this)
            have HQ := Lib.hid (And.intro hq.gr hq.res)
            clear hF hres hq hkids
            go_wp2_with fail
            refine HCALL.out.mono ?_
            rintro e w6 ⟨r1, i1, a1, l1, c1, at1, n1, rfl, hr6, hg6⟩
            unfold derivV
            obtain ⟨hi, hi0, hi1, hi2⟩ := HINF.out
            go_wp2_with (at_builtin; go_must (refine wpList_append_lies _ rfl (.tmp 149) (.tmp 154) 22 rfl (W5.heap.size + 1) 24 i0 _ 3 40 Tryd.underlying22 hi hi0 hi1 hi2 rfl (by decide) _ rows.length (kidCells rows) rfl ?own ⟨w6.heap.size, 0, none⟩ 1 1 [.int .i64 r1, .int .i64 i1, .slice a1 l1 c1] rfl rfl ?news ?one (by decide) ?c3 ?c4 ?c5 (w6.heap.size + 1) (by simp) ?_))
            case own => exact (ownsRow_gr2 HL.out.own (by omega) (by omega) hg6).alloc _
            case news => exact World.news_of_block (cs := #[.int .i64 r1, .int .i64 i1, .slice a1 l1 c1]) (t := 24) (fr := (0, 0)) (heap_alloc_new w6 _)
            case one => simp [Value.oneCell']
            case c3 => unfold maxLen; omega
            case c4 => omega
            case c5 => have := hg6.size; have := (Array.getElem?_eq_some_iff.1 HL.out.box).1; simp; omega
            intro g cap w7 hown7 hgrow7 hat7 hlt7
            clear hi hi0 hi1 hi2
            have L1 := Lib.hid (LSt.badly HR0.out hbr hbp hrw5 HL.out hlt HQ.out.1 HQ.out.2 HRES.out hr6 hg6 hgrow7 hown7)
            clear hr6 hg6 hown7 hgrow7 hat7 hlt7
            go_wp2
            go_roundw
            case rel => exact ⟨j + 1, _, by go_num, L1.out⟩
            case measure => simp [intOf]; omega
          | ok d k' n' =>
            have hmov := HMOV.out kk nn hkl
            rw [hF] at hmov
            simp only [Moves] at hmov
            have HRES : Hid (res = kidsM F (c - (j + 1)) k' n' (rows.map Prod.fst ++ [d])) := Lib.hid (by
              rw [hres, show c - j = (c - (j + 1)) + 1 by omega]
              simp only [kidsM, hF])
            have HCALL : Hid (Calls Tryd.prog 48 #[.pointer (some ⟨bp, 0, none⟩), .int .i64 ((deep : Int) + 1)] w5 (OkR w5 br bp toks lv df wf d k' n')) := Lib.hid (by
              have := IH.out kk nn w5 hq.rp (by omega) hkl hnk (by omega)
              rw [hF] at this
              exact this)
            have HQ := Lib.hid (And.intro hq hkids)
            clear hF hres hq hkids
            go_wp2_with fail
            refine HCALL.out.mono ?_
            rintro e w6 ⟨v1, rfl, hrep1, hx1, hx2, hr6, hg6⟩
            obtain ⟨hl1, a1, c1, rfl⟩ := hrep1.form
            unfold derivV
            obtain ⟨hi, hi0, hi1, hi2⟩ := HINF.out
            go_wp2_with (at_builtin; go_must (refine wpList_append_lies _ rfl (.tmp 149) (.tmp 154) 22 rfl (W5.heap.size + 1) 24 i0 _ 3 40 Tryd.underlying22 hi hi0 hi1 hi2 rfl (by decide) _ rows.length (kidCells rows) rfl ?own ⟨w6.heap.size, 0, none⟩ 1 1 [.int .i64 d.rule, .int .i64 d.idx, .slice a1 d.kids.length c1] rfl rfl ?news ?one (by decide) ?c3 ?c4 ?c5 (w6.heap.size + 1) (by simp) ?_))
            case own => exact (ownsRow_gr2 HL.out.own (by omega) (by omega) hg6).alloc _
            case news => exact World.news_of_block (cs := #[.int .i64 d.rule, .int .i64 d.idx, .slice a1 d.kids.length c1]) (t := 24) (fr := (0, 0)) (heap_alloc_new w6 _)
            case one => simp [Value.oneCell']
            case c3 => unfold maxLen; omega
            case c4 => omega
            case c5 => have := hg6.size; have := (Array.getElem?_eq_some_iff.1 HL.out.box).1; simp; omega
            intro g cap w7 hown7 hgrow7 hat7 hlt7
            clear hi hi0 hi1 hi2
            have L1 := Lib.hid (LSt.good HR0.out hbr hbp hrw5 HL.out hlt HQ.out.1 HQ.out.2 HRES.out (by omega) hrep1 hx1 hx2 hr6 hg6 hgrow7 (by simpa using hat7) hown7)
            clear hr6 hg6 hown7 hgrow7 hat7 hlt7 hrep1 hx1 hx2
            go_wp2
            go_roundw
            case rel => exact ⟨j + 1, _, by go_num, L1.out⟩
            case measure => simp [intOf]; omega
        · have HRES := Lib.hid hres
          have HQ := Lib.hid hq
          clear hres hq
          go_wp2_with fail
          refine (rderiv_stop br bp toks lv k' n' (wordOf y) df wf (deep + 1) w5 at_ (by omega) HQ.out.rp).mono ?_
          rintro e w6 ⟨rfl, hr6, hg6⟩
          unfold derivV
          obtain ⟨hi, hi0, hi1, hi2⟩ := HINF.out
          go_wp2_with (at_builtin; go_must (refine wpList_append_lies _ rfl (.tmp 149) (.tmp 154) 22 rfl (W5.heap.size + 1) 24 i0 _ 3 40 Tryd.underlying22 hi hi0 hi1 hi2 rfl (by decide) _ rows.length (kidCells rows) rfl ?own ⟨w6.heap.size, 0, none⟩ 1 1 [.int .i64 0, .int .i64 0, .slice none 0 0] rfl rfl ?news ?one (by decide) ?c3 ?c4 ?c5 (w6.heap.size + 1) (by simp) ?_))
          case own => exact (ownsRow_gr2 HL.out.own (by omega) (by omega) hg6).alloc _
          case news => exact World.news_of_block (cs := #[.int .i64 0, .int .i64 0, .slice none 0 0]) (t := 24) (fr := (0, 0)) (heap_alloc_new w6 _)
          case one => simp [Value.oneCell']
          case c3 => unfold maxLen; omega
          case c4 => omega
          case c5 => have := hg6.size; have := (Array.getElem?_eq_some_iff.1 HL.out.box).1; simp; omega
          intro g cap w7 hown7 hgrow7 hat7 hlt7
          clear hi hi0 hi1 hi2
          have L1 := Lib.hid (LSt.badly HR0.out hbr hbp hrw5 HL.out hlt HQ.out.gr HQ.out.res HRES.out hr6 hg6 hgrow7 hown7)
          clear hr6 hg6 hown7 hgrow7 hat7 hlt7
          go_wp2
          go_roundw
          case rel => exact ⟨j + 1, _, by go_num, L1.out⟩
          case measure => simp [intOf]; omega
      · have hjc2 : j = c := by omega
        have hrep0 : ∃ a9 l9 c9, u6 = .slice a9 l9 c9 := by
          rcases HL.out.own.2 with ⟨h, _⟩ | ⟨g, cap, cur, h, _⟩
          · exact ⟨_, _, _, h⟩
          · exact ⟨_, _, _, h⟩
        rcases HL.out.mode with ⟨kk, nn, hres, hq, hkids, hk0, hkl, hnk⟩ | ⟨k', y, at_, n', hres, hq⟩
        · have hres2 : res = .ok (rows.map Prod.fst) kk nn := by
            rw [hres, show c - j = 0 by omega]; rfl
          have HIXE := Lib.hid (HIXB.out _ _ _ hres2)
          have hrepS : RepS w5 (fun x => W5.heap.size < x) (rows.map Prod.fst) u6 := repS_of_owns HL.out.own (fun g hg => (HL.out.own.lt g hg).1) (fun p hp => ⟨(hkids p hp).1.kept (Nat.le_refl _) fun x hx _ => ⟨rfl, hx.1⟩, (hkids p hp).2⟩)
          have HREP := Lib.hid hrepS
          have HQ := Lib.hid hq
          have HRES := Lib.hid hres2
          obtain ⟨hl9, a9, c9, rfl⟩ := hrepS.form
          generalize hl9' : (rows.map Prod.fst).length = l9 at *
          clear hres hres2 hq hkids hrepS hrep0 hl9
          by_cases h6 : kindAt toks kk = 2
          · have H6 := Lib.hid h6
            clear h6
            obtain ⟨p0, p1, p2, p3, p4⟩ := HQ.out.rp.pat
            go_wp2_with fail
            refine (rwant_ok br toks lv _ kk 0 0 _ 2 (by decide) H6.out hl HQ.out.rp.rb).mono ?_
            rintro e w9 ⟨rfl, hrb9, hg9, hz9⟩
            have Q9 := Lib.hid (HQ.out.next hbr hbp (HQ.out.rp.moved hrb9 hg9) (.left hg9))
            have HREP9 : Hid (RepS w9 (fun x => W5.heap.size < x) (rows.map Prod.fst) (.slice a9 l9 c9)) := Lib.hid
              (HREP.out.kept hg9.size fun x hx hxl => ⟨hg9.block x hxl (by simp; omega), hx⟩)
            clear p0 p1 p2 p3 p4
            have hdx9 : w9.heap[W5.heap.size]? = some (.cells #[.int .i64 rr, .int .i64 ib, .slice none 0 0] 24 (0, 0)) := by
              rw [hg9.block _ (Array.getElem?_eq_some_iff.1 HL.out.box).1 (by simp; omega)]; exact HL.out.box
            have d0 : w9.cell? ⟨W5.heap.size, 0, none⟩ = some (.int .i64 rr) := by simp only [World.cell?, hdx9]; rfl
            have d1 : w9.cell? ⟨W5.heap.size, 1, none⟩ = some (.int .i64 ib) := by simp only [World.cell?, hdx9]; rfl
            have d2 : w9.cell? ⟨W5.heap.size, 2, none⟩ = some (.slice none 0 0) := by simp only [World.cell?, hdx9]; rfl
            have f2 : w9.frozen? ⟨W5.heap.size, 2, none⟩ = false := by simp only [World.frozen?, hdx9]; rfl
            have hdlt := (Array.getElem?_eq_some_iff.1 hdx9).1
            have hres := Q9.out.res
            have r0 : w9.cell? ⟨w.heap.size, 0, none⟩ = some (.int .i64 0) := by simp only [World.cell?, hres]; rfl
            have r1 : w9.cell? ⟨w.heap.size, 1, none⟩ = some (.int .i64 0) := by simp only [World.cell?, hres]; rfl
            have r2 : w9.cell? ⟨w.heap.size, 2, none⟩ = some (.slice none 0 0) := by simp only [World.cell?, hres]; rfl
            have g0 : w9.frozen? ⟨w.heap.size, 0, none⟩ = false := by simp only [World.frozen?, hres]; rfl
            have g1 : w9.frozen? ⟨w.heap.size, 1, none⟩ = false := by simp only [World.frozen?, hres]; rfl
            have g2 : w9.frozen? ⟨w.heap.size, 2, none⟩ = false := by simp only [World.frozen?, hres]; rfl
            have hlt9 := (Array.getElem?_eq_some_iff.1 hres).1
            have hb10 : Below W5.heap.size w9 (w9.setCell ⟨W5.heap.size, 2, none⟩ (.slice a9 l9 c9)) := (Below.refl W5.heap.size w9).setCell (p := ⟨W5.heap.size, 2, none⟩) (Nat.le_refl _) _
            have HX10 : Hid (∀ x, x ≠ W5.heap.size → (w9.setCell ⟨W5.heap.size, 2, none⟩ (.slice a9 l9 c9)).heap[x]? = w9.heap[x]?) := Lib.hid (fun x hx => Below.heap_setCell _ _ _ _ hx)
            have Q10 := Lib.hid (Q9.out.skip HR0.out hbr hbp hbr5 hbp5 hrw5 HX10.out (by simp [World.setCell]) rfl rfl rfl)
            have HW10 : Hid ((w9.setCell ⟨W5.heap.size, 2, none⟩ (.slice a9 l9 c9)).heap.size = w9.heap.size) := Lib.hid (by simp [World.setCell])
            clear hres hb10 hdx9
            go_wp2
            obtain ⟨W, hW, hWc, hWx, hWs, hrpW, hgW⟩ := rok_end HR0.out hbr hbp Q10.out rr ib (.slice a9 l9 c9)
            rw [hW]
            have e0 : W.cell? ⟨w.heap.size, 0, none⟩ = some (.int .i64 rr) := by simp only [World.cell?, hWc]; rfl
            have e1 : W.cell? ⟨w.heap.size, 1, none⟩ = some (.int .i64 ib) := by simp only [World.cell?, hWc]; rfl
            have e2 : W.cell? ⟨w.heap.size, 2, none⟩ = some (.slice a9 l9 c9) := by simp only [World.cell?, hWc]; rfl
            have HPOST : Hid (ResR w br bp toks lv df wf (closeM toks rr ix res) (.returned (derivV rr ib (.slice a9 l9 c9))) W) := Lib.hid (by
              rw [HRES.out]
              simp only [closeM, H6.out, if_true]
              refine ⟨.slice a9 l9 c9, by rw [HIXE.out]; rfl, ?_, HI.out, HIX.out, by simpa using hrpW, hgW⟩
              exact HREP9.out.kept (by rw [hWs, HW10.out]; exact Nat.le_refl _) fun x hx _ => ⟨by rw [hWx x (by omega), HX10.out x (by omega)], by omega⟩)
            clear hW hWc hWx hWs hrpW hgW
            exact bodyPost_ret (v := .agg #[.int .i64 rr, .int .i64 ib, .slice a9 l9 c9]) (by simp [results, Tryd.results48, go_sem, e0, e1, e2]) rfl HPOST.out
          · have H6 := Lib.hid h6
            clear h6
            obtain ⟨p0, p1, p2, p3, p4⟩ := HQ.out.rp.pat
            go_wp2_with fail
            refine (rwant_bad br toks lv _ kk 0 0 _ 2 H6.out HQ.out.rp.rb).mono ?_
            rintro e w9 ⟨rfl, hrb9, hg9, hz9⟩
            have Q9 := Lib.hid (HQ.out.next hbr hbp (HQ.out.rp.moved hrb9 hg9) (.left hg9))
            clear p0 p1 p2 p3 p4
            have hdx9 : w9.heap[W5.heap.size]? = some (.cells #[.int .i64 rr, .int .i64 ib, .slice none 0 0] 24 (0, 0)) := by
              rw [hg9.block _ (Array.getElem?_eq_some_iff.1 HL.out.box).1 (by simp; omega)]; exact HL.out.box
            have d0 : w9.cell? ⟨W5.heap.size, 0, none⟩ = some (.int .i64 rr) := by simp only [World.cell?, hdx9]; rfl
            have d1 : w9.cell? ⟨W5.heap.size, 1, none⟩ = some (.int .i64 ib) := by simp only [World.cell?, hdx9]; rfl
            have d2 : w9.cell? ⟨W5.heap.size, 2, none⟩ = some (.slice none 0 0) := by simp only [World.cell?, hdx9]; rfl
            have f2 : w9.frozen? ⟨W5.heap.size, 2, none⟩ = false := by simp only [World.frozen?, hdx9]; rfl
            have hdlt := (Array.getElem?_eq_some_iff.1 hdx9).1
            have hres := Q9.out.res
            have r0 : w9.cell? ⟨w.heap.size, 0, none⟩ = some (.int .i64 0) := by simp only [World.cell?, hres]; rfl
            have r1 : w9.cell? ⟨w.heap.size, 1, none⟩ = some (.int .i64 0) := by simp only [World.cell?, hres]; rfl
            have r2 : w9.cell? ⟨w.heap.size, 2, none⟩ = some (.slice none 0 0) := by simp only [World.cell?, hres]; rfl
            have g0 : w9.frozen? ⟨w.heap.size, 0, none⟩ = false := by simp only [World.frozen?, hres]; rfl
            have g1 : w9.frozen? ⟨w.heap.size, 1, none⟩ = false := by simp only [World.frozen?, hres]; rfl
            have g2 : w9.frozen? ⟨w.heap.size, 2, none⟩ = false := by simp only [World.frozen?, hres]; rfl
            have hlt9 := (Array.getElem?_eq_some_iff.1 hres).1
            have hb10 : Below W5.heap.size w9 (w9.setCell ⟨W5.heap.size, 2, none⟩ (.slice a9 l9 c9)) := (Below.refl W5.heap.size w9).setCell (p := ⟨W5.heap.size, 2, none⟩) (Nat.le_refl _) _
            have HX10 : Hid (∀ x, x ≠ W5.heap.size → (w9.setCell ⟨W5.heap.size, 2, none⟩ (.slice a9 l9 c9)).heap[x]? = w9.heap[x]?) := Lib.hid (fun x hx => Below.heap_setCell _ _ _ _ hx)
            have Q10 := Lib.hid (Q9.out.skip HR0.out hbr hbp hbr5 hbp5 hrw5 HX10.out (by simp [World.setCell]) rfl rfl rfl)
            have HW10 : Hid ((w9.setCell ⟨W5.heap.size, 2, none⟩ (.slice a9 l9 c9)).heap.size = w9.heap.size) := Lib.hid (by simp [World.setCell])
            clear hres hb10 hdx9
            go_wp2
            obtain ⟨W, hW, hWc, hWx, hWs, hrpW, hgW⟩ := rok_end HR0.out hbr hbp Q10.out rr ib (.slice a9 l9 c9)
            rw [hW]
            have e0 : W.cell? ⟨w.heap.size, 0, none⟩ = some (.int .i64 rr) := by simp only [World.cell?, hWc]; rfl
            have e1 : W.cell? ⟨w.heap.size, 1, none⟩ = some (.int .i64 ib) := by simp only [World.cell?, hWc]; rfl
            have e2 : W.cell? ⟨w.heap.size, 2, none⟩ = some (.slice a9 l9 c9) := by simp only [World.cell?, hWc]; rfl
            have HPOST : Hid (ResR w br bp toks lv df wf (closeM toks rr ix res) (.returned (derivV rr ib (.slice a9 l9 c9))) W) := Lib.hid (by
              rw [HRES.out]
              simp only [closeM, H6.out, if_false]
              exact ⟨_, _, _, _, _, _, _, rfl, hrpW, hgW⟩)
            clear hW hWc hWx hWs hrpW hgW
            exact bodyPost_ret (v := .agg #[.int .i64 rr, .int .i64 ib, .slice a9 l9 c9]) (by simp [results, Tryd.results48, go_sem, e0, e1, e2]) rfl HPOST.out
        · obtain ⟨a9, l9, c9, rfl⟩ := hrep0
          have HRES := Lib.hid hres
          have HQ := Lib.hid hq
          clear hres hq
          obtain ⟨p0, p1, p2, p3, p4⟩ := HQ.out.rp.pat
          go_wp2_with fail
          refine (rwant_stop br toks lv _ k' 0 0 w5 2 _ (by omega) HQ.out.rp.rb).mono ?_
          rintro e w9 ⟨rfl, rfl⟩
          have Q9 := Lib.hid HQ.out
          have hg9 := grown_refl w9 (some br)
          clear p0 p1 p2 p3 p4
          have hdx9 : w9.heap[W5.heap.size]? = some (.cells #[.int .i64 rr, .int .i64 ib, .slice none 0 0] 24 (0, 0)) := by
            rw [hg9.block _ (Array.getElem?_eq_some_iff.1 HL.out.box).1 (by simp; omega)]; exact HL.out.box
          have d0 : w9.cell? ⟨W5.heap.size, 0, none⟩ = some (.int .i64 rr) := by simp only [World.cell?, hdx9]; rfl
          have d1 : w9.cell? ⟨W5.heap.size, 1, none⟩ = some (.int .i64 ib) := by simp only [World.cell?, hdx9]; rfl
          have d2 : w9.cell? ⟨W5.heap.size, 2, none⟩ = some (.slice none 0 0) := by simp only [World.cell?, hdx9]; rfl
          have f2 : w9.frozen? ⟨W5.heap.size, 2, none⟩ = false := by simp only [World.frozen?, hdx9]; rfl
          have hdlt := (Array.getElem?_eq_some_iff.1 hdx9).1
          have hres := Q9.out.res
          have r0 : w9.cell? ⟨w.heap.size, 0, none⟩ = some (.int .i64 0) := by simp only [World.cell?, hres]; rfl
          have r1 : w9.cell? ⟨w.heap.size, 1, none⟩ = some (.int .i64 0) := by simp only [World.cell?, hres]; rfl
          have r2 : w9.cell? ⟨w.heap.size, 2, none⟩ = some (.slice none 0 0) := by simp only [World.cell?, hres]; rfl
          have g0 : w9.frozen? ⟨w.heap.size, 0, none⟩ = false := by simp only [World.frozen?, hres]; rfl
          have g1 : w9.frozen? ⟨w.heap.size, 1, none⟩ = false := by simp only [World.frozen?, hres]; rfl
          have g2 : w9.frozen? ⟨w.heap.size, 2, none⟩ = false := by simp only [World.frozen?, hres]; rfl
          have hlt9 := (Array.getElem?_eq_some_iff.1 hres).1
          have hb10 : Below W5.heap.size w9 (w9.setCell ⟨W5.heap.size, 2, none⟩ (.slice a9 l9 c9)) := (Below.refl W5.heap.size w9).setCell (p := ⟨W5.heap.size, 2, none⟩) (Nat.le_refl _) _
          have HX10 : Hid (∀ x, x ≠ W5.heap.size → (w9.setCell ⟨W5.heap.size, 2, none⟩ (.slice a9 l9 c9)).heap[x]? = w9.heap[x]?) := Lib.hid (fun x hx => Below.heap_setCell _ _ _ _ hx)
          have Q10 := Lib.hid (Q9.out.skip HR0.out hbr hbp hbr5 hbp5 hrw5 HX10.out (by simp [World.setCell]) rfl rfl rfl)
          have HW10 : Hid ((w9.setCell ⟨W5.heap.size, 2, none⟩ (.slice a9 l9 c9)).heap.size = w9.heap.size) := Lib.hid (by simp [World.setCell])
          clear hres hb10 hdx9
          go_wp2
          obtain ⟨W, hW, hWc, hWx, hWs, hrpW, hgW⟩ := rok_end HR0.out hbr hbp Q10.out rr ib (.slice a9 l9 c9)
          rw [hW]
          have e0 : W.cell? ⟨w.heap.size, 0, none⟩ = some (.int .i64 rr) := by simp only [World.cell?, hWc]; rfl
          have e1 : W.cell? ⟨w.heap.size, 1, none⟩ = some (.int .i64 ib) := by simp only [World.cell?, hWc]; rfl
          have e2 : W.cell? ⟨w.heap.size, 2, none⟩ = some (.slice a9 l9 c9) := by simp only [World.cell?, hWc]; rfl
          have HPOST : Hid (ResR w br bp toks lv df wf (closeM toks rr ix res) (.returned (derivV rr ib (.slice a9 l9 c9))) W) := Lib.hid (by
            rw [HRES.out]
            exact ⟨_, _, _, _, _, _, _, rfl, hrpW, hgW⟩)
          clear hW hWc hWx hWs hrpW hgW
          exact bodyPost_ret (v := .agg #[.int .i64 rr, .int .i64 ib, .slice a9 l9 c9]) (by simp [results, Tryd.results48, go_sem, e0, e1, e2]) rfl HPOST.out
end
end Go.Proofs.YtfpiogaakblpeaaDoor
