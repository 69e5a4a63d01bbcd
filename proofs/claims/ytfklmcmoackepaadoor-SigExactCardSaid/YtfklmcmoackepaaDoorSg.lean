/- Walk of the reader's name. A term that is being read: its block, the row of its kids, the names that are bound. -/
import Derived.Test.YtfklmcmoackepaaDoorSl
import Derived.Test.YtfklmcmoackepaaDoorSf
import Derived.Deep.RegionHeld3
import Derived.Deep.AppendLies
namespace Go.Proofs.YtfklmcmoackepaaDoor
open Go.RowKit

theorem look_some {nm : List (List UInt8)} {s : List UInt8} {p : Nat} (hp : nm[p]? = some s) (h : ∀ x, p < x → x < nm.length → nm[x]? ≠ some s) : lookM nm s = some (nm.length - 1 - p) := by
  have hlt : p < nm.length := (List.getElem?_eq_some_iff.1 hp).1
  have hs : nm[p] = s := (List.getElem?_eq_some_iff.1 hp).2
  have hmem : s ∈ nm := hs ▸ List.getElem_mem hlt
  unfold lookM
  rw [if_pos hmem]
  have hsplit : nm = nm.take p ++ s :: nm.drop (p + 1) := by
    conv => lhs; rw [← List.take_append_drop p nm, List.drop_eq_getElem_cons hlt, hs]
  have hno : s ∉ nm.drop (p + 1) := by
    intro hm
    obtain ⟨x, hx, hxe⟩ := List.mem_iff_getElem.1 hm
    rw [List.length_drop] at hx
    rw [List.getElem_drop] at hxe
    refine h (p + 1 + x) (by omega) (by omega) ?_
    rw [List.getElem?_eq_getElem (by omega), hxe]
  congr 1
  have hrev : nm.reverse = (nm.drop (p + 1)).reverse ++ s :: (nm.take p).reverse := by
    conv => lhs; rw [hsplit]
    simp
  rw [hrev, List.idxOf_append, if_neg (by simpa using hno), List.idxOf_cons_self]
  simp
  omega
theorem look_none {nm : List (List UInt8)} {s : List UInt8} (h : ∀ x, x < nm.length → nm[x]? ≠ some s) : lookM nm s = none := by
  unfold lookM
  rw [if_neg]
  intro hm
  obtain ⟨x, hx, hxe⟩ := List.mem_iff_getElem.1 hm
  exact h x hx (by rw [List.getElem?_eq_getElem hx, hxe])

theorem cells5 {W : World} {R : Nat} {a c d e f : Value} {T : TypeId} (h : W.heap[R]? = some (.cells #[a, c, d, e, f] T (0, 0))) :
    W.cell? ⟨R, 0, none⟩ = some a ∧ W.cell? ⟨R, 1, none⟩ = some c ∧ W.cell? ⟨R, 2, none⟩ = some d ∧ W.cell? ⟨R, 3, none⟩ = some e ∧ W.cell? ⟨R, 4, none⟩ = some f ∧
    W.frozen? ⟨R, 0, none⟩ = false ∧ W.frozen? ⟨R, 1, none⟩ = false ∧ W.frozen? ⟨R, 2, none⟩ = false ∧ W.frozen? ⟨R, 3, none⟩ = false ∧ W.frozen? ⟨R, 4, none⟩ = false := by
  have hc : ∀ j : Nat, W.cell? ⟨R, j, none⟩ = (#[a, c, d, e, f] : Array Value)[j]? := fun j => by simp only [World.cell?]; rw [h]; simp
  have hf : ∀ j : Nat, W.frozen? ⟨R, j, none⟩ = false := fun j => by simp only [World.frozen?]; rw [h]; simp
  exact ⟨hc 0, hc 1, hc 2, hc 3, hc 4, hf 0, hf 1, hf 2, hf 3, hf 4⟩
def set5 (W : World) (R : Nat) (a c d e f : Value) : World := ((((W.setCell ⟨R, 0, none⟩ a).setCell ⟨R, 1, none⟩ c).setCell ⟨R, 2, none⟩ d).setCell ⟨R, 3, none⟩ e).setCell ⟨R, 4, none⟩ f
theorem set5_other (W : World) (R : Nat) (a c d e f : Value) {x : Nat} (hx : x ≠ R) : (set5 W R a c d e f).heap[x]? = W.heap[x]? := by
  unfold set5
  rw [Below.heap_setCell _ _ _ _ hx, Below.heap_setCell _ _ _ _ hx, Below.heap_setCell _ _ _ _ hx, Below.heap_setCell _ _ _ _ hx, Below.heap_setCell _ _ _ _ hx]
theorem set5_grown (W : World) (R : Nat) (a c d e f : Value) : W.grownBy (set5 W R a c d e f) (some R) :=
  grown_set (grown_set (grown_set (grown_set (grown_set (grown_refl _ _) 0 _) 1 _) 2 _) 3 _) 4 _
theorem set5_size (W : World) (R : Nat) (a c d e f : Value) : (set5 W R a c d e f).heap.size = W.heap.size := by simp [set5, World.setCell]
theorem set1_at {W : World} {R : Nat} {cs : Array Value} {T : TypeId} {fr : Nat × Nat} (h : W.heap[R]? = some (.cells cs T fr)) (j : Nat) (v : Value) : (W.setCell ⟨R, j, none⟩ v).heap[R]? = some (.cells (cs.setIfInBounds j v) T fr) := by
  simp [World.setCell, Array.getElem?_modify, h]
theorem set5_at {W : World} {R : Nat} {a0 c0 d0 e0 f0 : Value} {T : TypeId} (h : W.heap[R]? = some (.cells #[a0, c0, d0, e0, f0] T (0, 0))) (a c d e f : Value) : (set5 W R a c d e f).heap[R]? = some (.cells #[a, c, d, e, f] T (0, 0)) :=
  set1_at (set1_at (set1_at (set1_at (set1_at h 0 a) 1 c) 2 d) 3 e) 4 f
theorem Rr.grown {E : REnv} {lv : Value} {en : Int} {b : Nat} {w W : World} {nv : Value} {nm : List (List UInt8)} {m0 m : Md} (h0 : Rr E lv en b w nv nm m0) (h : Rr E lv en b W nv nm m) {W' : World} (hb : W'.heap[b]? = W.heap[b]?) (g : w.grownBy W' (some b)) : Rr E lv en b W' nv nm m := by
  obtain ⟨kk, x, hc, hm⟩ := h.cells
  exact { h0 with cells := ⟨kk, x, by rw [hb]; exact hc, hm⟩, has := h0.has.grown g h0.far, hasN := h0.hasN.grown g h0.farN, tab := h0.tab.grown g }
/-- five cells laid anew in a block of the call's own -/
theorem set5_turn {E : REnv} {lv : Value} {en : Int} {b : Nat} {w W : World} {nv : Value} {nm : List (List UInt8)} {m0 m : Md} (h0 : Rr E lv en b w nv nm m0) {R : Nat} (hR : w.heap.size ≤ R) (ht : Turn E lv en b w nv nm m W) (a c d e f : Value) : Turn E lv en b w nv nm m (set5 W R a c d e f) := by
  have hlt := h0.lt
  have g5 := set5_grown W R a c d e f
  have hsz := ht.2.size
  have g : w.grownBy (set5 W R a c d e f) (some b) := ⟨g5.os.trans ht.2.os, g5.tape.trans ht.2.tape, g5.output.trans ht.2.output, Nat.le_trans hsz g5.size, fun x hl hn => (set5_other W R a c d e f (show x ≠ R by omega)).trans (ht.2.block x hl hn)⟩
  exact ⟨h0.grown ht.1 (set5_other W R a c d e f (show b ≠ R by omega)) g, g⟩

section
variable {E : REnv} {lv : Value} {en : Int} {b : Nat} {w : World} {nv : Value} {nm : List (List UInt8)}

def NamePost (E : REnv) (lv : Value) (en : Int) (b : Nat) (w : World) (nv : Value) (nm : List (List UInt8)) (k : Nat) (e : Ending) (w' : World) : Prop :=
  match lookM nm (textAt E.l k) with
  | some x => e = .returned (termV 2 x 0 0 (.slice none 0 0)) ∧ Turn E lv en b w nv nm (.ok (k + 1)) w'
  | none => e = .returned (termV 0 0 0 0 (.slice none 0 0)) ∧ Turn E lv en b w nv nm (.bad k) w'

theorem NamePost_none {k : Nat} {w' : World} (h : lookM nm (textAt E.l k) = none) (ht : Turn E lv en b w nv nm (.bad k) w') : NamePost E lv en b w nv nm k (.returned (termV 0 0 0 0 (.slice none 0 0))) w' := by
  unfold NamePost; rw [h]; exact ⟨rfl, ht⟩
theorem NamePost_some {k x : Nat} {w' : World} (h : lookM nm (textAt E.l k) = some x) (ht : Turn E lv en b w nv nm (.ok (k + 1)) w') : NamePost E lv en b w nv nm k (.returned (termV 2 x 0 0 (.slice none 0 0))) w' := by
  unfold NamePost; rw [h]; exact ⟨rfl, ht⟩

set_option maxHeartbeats 2000000 in
set_option maxRecDepth 100000 in
theorem rname_any {k : Nat} (hk : kindAt E.l k = 3) (h : Rr E lv en b w nv nm (.ok k)) (hnl : nm.length ≤ 4398046511104) :
    Calls Tryd.prog 46 #[.pointer (some ⟨b, 0, none⟩)] w (NamePost E lv en b w nv nm k) := by
  have hlt := kindAt_lt (l := E.l) (k := k) (by omega)
  have HR := Lib.hid (h.kept (below_alloc w (.cells #[.int .i64 0, .int .i64 0, .int .i64 0, .int .i64 0, .slice none 0 0] 24)))
  have H0 := Lib.hid h
  have HB0 := Lib.hid (below_alloc w (.cells #[.int .i64 0, .int .i64 0, .int .i64 0, .int .i64 0, .slice none 0 0] 24))
  have hw0 := h.lt
  have hne1 : ¬ w.heap.size = b := by omega
  have hne2 : ¬ b = w.heap.size := by omega
  have hres : (w.alloc (.cells #[.int .i64 0, .int .i64 0, .int .i64 0, .int .i64 0, .slice none 0 0] 24)).heap[w.heap.size]? = some (.cells #[.int .i64 0, .int .i64 0, .int .i64 0, .int .i64 0, .slice none 0 0] 24 (0, 0)) := new_heap _ _ _
  have hfar := h.far
  obtain ⟨an, cn, hnv⟩ : ∃ a c, nv = .slice a nm.length c := by
    rcases h.hasN.2 with ⟨rfl, h0⟩ | ⟨bt, o, c, rfl, hn, hbt, hcells⟩
    · exact ⟨none, 0, by rw [h0]⟩
    · exact ⟨_, _, rfl⟩
  have HNM : Hid (∀ W : World, Rr E lv en b W nv nm (.ok k) → ∀ p, (hp : p < nm.length) → ∃ bn o, an = some ⟨bn, o, none⟩ ∧ W.cell? ⟨bn, o + p, none⟩ = some (.string ⟨nm[p].toArray⟩)) := Lib.hid (fun W hW p hp => by
    rcases hW.hasN.2 with ⟨h1, h0⟩ | ⟨bt, o, c, h1, hn, hbt, hcells⟩
    · omega
    · rw [hnv] at h1
      cases h1
      refine ⟨bt, o, rfl, ?_⟩
      rw [hcells p (by omega)]
      simp [textRow, hp])
  subst hnv
  have HTK : Hid (∀ W : World, Rr E lv en b W (.slice an nm.length cn) nm (.ok k) → ∃ bt o c, lv = .slice (some ⟨bt, o, none⟩) E.l.length c ∧ W.cell? ⟨bt, o + k * 3 + 1, none⟩ = some (.string ⟨(textAt E.l k).toArray⟩)) := Lib.hid (fun W hW => by
    rcases hW.has.2 with ⟨rfl, h0⟩ | ⟨bt, o, c, rfl, hn, hbt, hcells⟩
    · omega
    · refine ⟨bt, o, c, rfl, ?_⟩
      rw [textAt_eq hlt]
      exact (hcells (k * 3 + 1) (by omega)).trans (toksCells_at E.l k hlt).2.1)
  have hl := h.len
  obtain ⟨bt, o, c, rfl, _⟩ := HTK.out _ HR.out
  obtain ⟨c0, c1, c2, c3, c4, c5, c6, c7⟩ := HR.out.at
  clear h hk hfar
  go_enter Tryd.func46, Tryd.ntmps46
  go_wp2_with fail
  generalize w.alloc (.cells #[.int .i64 0, .int .i64 0, .int .i64 0, .int .i64 0, .slice none 0 0] 24) = W0 at *
  go_loopw [3] (fun kv wr => ∃ (q m : Nat), kv = .int .i64 ((q : Int) - 1) ∧ q ≤ nm.length ∧ (∀ x, q ≤ x → x < nm.length → nm[x]? ≠ some (textAt E.l k)) ∧ wr = W0.drewN m) (fun i _ => (intOf i + 1).toNat)
  case atStart => exact ⟨nm.length, 0, rfl, Nat.le_refl _, fun x h1 h2 => by omega, rfl⟩
  case round =>
    obtain ⟨q, m, rfl, hq, hno, rfl⟩ := hrel
    have HNO := Lib.hid hno
    clear hno
    cases q with
    | zero =>
      have HL : Hid (lookM nm (textAt E.l k) = none) := Lib.hid (look_none fun x hx => HNO.out x (Nat.zero_le _) hx)
      have hm1 : ((0 : Nat) : Int) - 1 = -1 := rfl
      rw [hm1]
      go_wp2_with fail
      refine (fail_ok k (HR.out.drewN m)).mono ?_
      rintro e w1 ⟨rfl, ht1⟩
      have hh1 : w1.heap[w.heap.size]? = some (.cells #[.int .i64 0, .int .i64 0, .int .i64 0, .int .i64 0, .slice none 0 0] 24 (0, 0)) := by
        rw [ht1.2.block w.heap.size (by simpa using (Array.getElem?_eq_some_iff.1 hres).1) (by simp; omega)]
        simpa using hres
      have HT1 : Hid (Turn E _ en b w _ nm (.bad k) w1) := Lib.hid ⟨ht1.1, grown_trans (grown_drewN (grown_below HB0.out) m) ht1.2⟩
      have HH1 := Lib.hid hh1
      obtain ⟨r0, r1, r2, r3, r4, g0, g1, g2, g3, g4⟩ := cells5 hh1
      clear ht1 hh1 hres c0 c1 c2 c3 c4 c5 c6 c7
      go_wp2
      have hset := set5_at HH1.out (.int .i64 0) (.int .i64 0) (.int .i64 0) (.int .i64 0) (.slice none 0 0)
      have htn := set5_turn H0.out (Nat.le_refl _) HT1.out (.int .i64 0) (.int .i64 0) (.int .i64 0) (.int .i64 0) (.slice none 0 0)
      unfold set5 at hset htn
      obtain ⟨x0, x1, x2, x3, x4, _⟩ := cells5 hset
      exact bodyPost_ret (v := termV 0 0 0 0 (.slice none 0 0)) (by simp [results, Tryd.results46, go_sem, x0, x1, x2, x3, x4, termV]) rfl (NamePost_none HL.out htn)
    | succ p =>
      have hz : ((p + 1 : Nat) : Int) - 1 = (p : Int) := by omega
      rw [hz]
      have hplt : p < nm.length := by omega
      obtain ⟨bn, on, han, hnc⟩ := HNM.out _ HR.out p hplt
      obtain ⟨_, _, _, hlv, htc⟩ := HTK.out _ HR.out
      cases hlv
      subst han
      have HX : Hid (nm[p]? = some nm[p]) := Lib.hid (List.getElem?_eq_getElem hplt)
      generalize nm[p] = sp at hnc HX
      by_cases he : sp = textAt E.l k
      · have hb2 : (sp == textAt E.l k) = true := by simp [he]
        have HL : Hid (lookM nm (textAt E.l k) = some (nm.length - 1 - p)) := Lib.hid (look_some (by rw [HX.out, he]) fun x h1 h2 => HNO.out x (by omega) h2)
        clear he
        generalize htk : textAt E.l k = tk at *
        have HTKE := Lib.hid htk
        clear htk
        have f1 := HR.out.fz 1
        have hbl := HR.out.lt
        go_wp2
        go_quiet (fail)
        revert nq
        intro n1
        have HR1 := Lib.hid ((HR.out.drewN (m + n1)).step (k + 1) hlt)
        have HT1 : Hid (Turn E _ en b w _ nm (.ok (k + 1)) ((W0.drewN (m + n1)).setCell ⟨b, 1, none⟩ (.int .i64 ((k + 1 : Nat) : Int)))) := Lib.hid ⟨HR1.out, grown_set (grown_drewN (grown_below HB0.out) _) 1 _⟩
        have hh1 : ((W0.drewN (m + n1)).setCell ⟨b, 1, none⟩ (.int .i64 ((k + 1 : Nat) : Int))).heap[w.heap.size]? = some (.cells #[.int .i64 0, .int .i64 0, .int .i64 0, .int .i64 0, .slice none 0 0] 24 (0, 0)) := by
          rw [Below.heap_setCell _ _ _ _ hne1]
          simpa using hres
        have HH1 := Lib.hid hh1
        obtain ⟨r0, r1, r2, r3, r4, g0, g1, g2, g3, g4⟩ := cells5 hres
        have hx1 : ((nm.length - 1 - p : Nat) : Int) = (nm.length : Int) - 1 - (p : Int) := by omega
        clear hh1 hres
        go_wp2
        have hset := set5_at HH1.out (.int .i64 2) (.int .i64 (nm.length - 1 - p : Nat)) (.int .i64 0) (.int .i64 0) (.slice none 0 0)
        have htn := set5_turn H0.out (Nat.le_refl _) HT1.out (.int .i64 2) (.int .i64 (nm.length - 1 - p : Nat)) (.int .i64 0) (.int .i64 0) (.slice none 0 0)
        unfold set5 at hset htn
        rw [hx1] at hset htn
        simp only [Int.natCast_add, Int.natCast_one] at hset htn
        obtain ⟨x0, x1, x2, x3, x4, _⟩ := cells5 hset
        exact bodyPost_ret (v := termV 2 (nm.length - 1 - p : Nat) 0 0 (.slice none 0 0)) (by simp [results, Tryd.results46, go_sem, x0, x1, x2, x3, x4, termV, hx1]) rfl (NamePost_some (by rw [HTKE.out]; exact HL.out) htn)
      · have hb2 : (sp == textAt E.l k) = false := by simpa using he
        have HNO2 : Hid (∀ x, p ≤ x → x < nm.length → nm[x]? ≠ some (textAt E.l k)) := Lib.hid (fun x h1 h2 h3 => by
          rcases Nat.lt_or_ge p x with h4 | h4
          · exact HNO.out x (by omega) h2 h3
          · have : x = p := by omega
            subst this
            rw [HX.out] at h3
            exact he (Option.some.inj h3))
        clear he
        generalize textAt E.l k = tk at *
        go_wp2
        go_quiet (fail)
        go_wp2
        go_roundw
        case rel => exact ⟨p, m + nq, (by first | rfl | go_num), by omega, HNO2.out, by simp⟩
        case measure => simp [intOf]
end
end Go.Proofs.YtfklmcmoackepaaDoor

namespace Go.Proofs.YtfklmcmoackepaaDoor
open Go.RowKit

def TT.kd : TT → Int | .node k _ _ _ _ => k
def TT.ni : TT → Int | .node _ i _ _ _ => i
def TT.nj : TT → Int | .node _ _ j _ _ => j
def TT.nn : TT → Int | .node _ _ _ n _ => n
def TT.kids : TT → List TT | .node _ _ _ _ ks => ks
def TT.in4 (t : TT) : Prop := In64 t.kd ∧ In64 t.ni ∧ In64 t.nj ∧ In64 t.nn
theorem TT.eta (t : TT) : t = .node t.kd t.ni t.nj t.nn t.kids := by cases t; rfl

/-- as RepT, all its rows in blocks of S -/
inductive RepTS (w : World) (S : Nat → Prop) : List TT → Value → Prop
  | nil (a : Option Addr) (c : Nat) : RepTS w S [] (.slice a 0 c)
  | row (b o c : Nat) (ks : List TT) (kv : Nat → Value) (hn : ks.length ≤ maxLen) (hb : b < w.heap.size) (hS : S b)
      (hc : ∀ x k i j n l, ks[x]? = some (.node k i j n l) → w.cell? ⟨b, o + x * 5, none⟩ = some (.int .i64 k) ∧ w.cell? ⟨b, o + x * 5 + 1, none⟩ = some (.int .i64 i) ∧ w.cell? ⟨b, o + x * 5 + 2, none⟩ = some (.int .i64 j) ∧ w.cell? ⟨b, o + x * 5 + 3, none⟩ = some (.int .i64 n) ∧ w.cell? ⟨b, o + x * 5 + 4, none⟩ = some (kv x) ∧ In64 k ∧ In64 i ∧ In64 j ∧ In64 n)
      (hk : ∀ x k i j n l, ks[x]? = some (.node k i j n l) → RepTS w S l (kv x)) :
      RepTS w S ks (.slice (some ⟨b, o, none⟩) ks.length c)
theorem RepTS.rep {w : World} {S : Nat → Prop} {ks : List TT} {v : Value} (h : RepTS w S ks v) : RepT w ks v := by
  induction h with
  | nil a c => exact .nil a c
  | row b o c ks kv hn hb hS hc _ ih => exact .row b o c ks kv hn hb hc ih
theorem RepTS.kept {w w' : World} {S S' : Nat → Prop} (hsz : w.heap.size ≤ w'.heap.size) (hS : ∀ x, S x → x < w.heap.size → w'.heap[x]? = w.heap[x]? ∧ S' x) {ks : List TT} {v : Value} (h : RepTS w S ks v) : RepTS w' S' ks v := by
  induction h with
  | nil a c => exact .nil a c
  | row b o c ks kv hn hb hSb hc _ ih =>
    have hh := hS b hSb hb
    have hcell : ∀ off, w'.cell? ⟨b, off, none⟩ = w.cell? ⟨b, off, none⟩ := fun off => by simp only [World.cell?, hh.1]
    refine .row b o c ks kv hn (Nat.lt_of_lt_of_le hb hsz) hh.2 (fun x k i j n l h => ?_) ih
    rw [hcell, hcell, hcell, hcell, hcell]
    exact hc x k i j n l h

def kidCells (l : List (TT × Value)) : List Value := l.flatMap fun p => [.int .i64 p.1.kd, .int .i64 p.1.ni, .int .i64 p.1.nj, .int .i64 p.1.nn, p.2]
theorem kidCells_length (l : List (TT × Value)) : (kidCells l).length = l.length * 5 := by
  induction l with
  | nil => rfl
  | cons p l ih => simp only [kidCells, List.flatMap_cons, List.length_append, List.length_cons, List.length_nil] at *; omega
theorem kidCells_append (a b : List (TT × Value)) : kidCells (a ++ b) = kidCells a ++ kidCells b := by simp [kidCells]
theorem kidCells_at : ∀ (l : List (TT × Value)) (i : Nat) (h : i < l.length), (kidCells l)[i * 5]? = some (.int .i64 l[i].1.kd) ∧ (kidCells l)[i * 5 + 1]? = some (.int .i64 l[i].1.ni) ∧ (kidCells l)[i * 5 + 2]? = some (.int .i64 l[i].1.nj) ∧ (kidCells l)[i * 5 + 3]? = some (.int .i64 l[i].1.nn) ∧ (kidCells l)[i * 5 + 4]? = some l[i].2
  | p :: l, 0, _ => ⟨rfl, rfl, rfl, rfl, rfl⟩
  | p :: l, i + 1, h => by
    have := kidCells_at l i (by simpa using h)
    have e : ∀ j, (kidCells (p :: l))[(i + 1) * 5 + j]? = (kidCells l)[i * 5 + j]? := by
      intro j
      simp only [kidCells, List.flatMap_cons]
      rw [List.getElem?_append_right (by simp; omega)]
      congr 1
      simp; omega
    have e0 := e 0
    simp only [Nat.add_zero] at e0
    rw [e0, e 1, e 2, e 3, e 4]
    simpa using this

theorem repTS_of_owns {w : World} {base : Nat} {t : TypeId} {v : Value} {rows : List (TT × Value)} {S : Nat → Prop} (hown : w.ownsRow base t 5 v rows.length (kidCells rows)) (hS : ∀ g, v.ownBlock = some g → S g)
    (hk : ∀ p ∈ rows, RepTS w S p.1.kids p.2 ∧ p.1.in4) : RepTS w S (rows.map Prod.fst) v := by
  rcases hown.2 with ⟨rfl, h0⟩ | ⟨g, cap, cur, rfl, hg, hh, hn, hc, hr⟩
  · have : rows = [] := List.eq_nil_of_length_eq_zero h0
    subst this
    exact .nil _ _
  · have hrow := RepTS.row (w := w) (S := S) g 0 cap (rows.map Prod.fst) (fun j => (rows[j]?.map Prod.snd).getD undef) (by simp; omega) (Array.getElem?_eq_some_iff.1 hh).1 (hS g rfl) (fun x k i j n l hj => ?_) (fun x k i j n l hj => ?_)
    · simpa using hrow
    · rw [List.getElem?_map] at hj
      obtain ⟨p, hp, he⟩ := Option.map_eq_some_iff.1 hj
      obtain ⟨hlt, hpe⟩ := List.getElem?_eq_some_iff.1 hp
      have hat := kidCells_at rows x hlt
      rw [hpe, he] at hat
      have hm := hk p (List.mem_of_getElem? hp)
      rw [he] at hm
      have c0 := hown.cellAt (g := g) (x * 5) (by omega)
      have c1 := hown.cellAt (g := g) (x * 5 + 1) (by omega)
      have c2 := hown.cellAt (g := g) (x * 5 + 2) (by omega)
      have c3 := hown.cellAt (g := g) (x * 5 + 3) (by omega)
      have c4 := hown.cellAt (g := g) (x * 5 + 4) (by omega)
      simp only [Nat.zero_add]
      rw [c0, c1, c2, c3, c4, hat.1, hat.2.1, hat.2.2.1, hat.2.2.2.1, hat.2.2.2.2, hp]
      exact ⟨rfl, rfl, rfl, rfl, rfl, hm.2.1, hm.2.2.1, hm.2.2.2.1, hm.2.2.2.2⟩
    · rw [List.getElem?_map] at hj
      obtain ⟨p, hp, he⟩ := Option.map_eq_some_iff.1 hj
      have hm := hk p (List.mem_of_getElem? hp)
      rw [he] at hm
      rw [hp]
      exact hm.1

theorem own_ne {w : World} {b1 b2 s1 s2 n1 n2 : Nat} {e1 e2 : TypeId} {v1 v2 : Value} {x1 x2 : List Value} (h1 : w.ownsRow b1 e1 s1 v1 n1 x1) (h2 : w.ownsRow b2 e2 s2 v2 n2 x2) (he : e1 ≠ e2) : ∀ g, v1.ownBlock = some g → v2.ownBlock ≠ some g := by
  intro g hg1 hg2
  rcases h1.2 with ⟨rfl, _⟩ | ⟨g1, c1, u1, rfl, _, hh1, _⟩
  · simp [Value.ownBlock] at hg1
  rcases h2.2 with ⟨rfl, _⟩ | ⟨g2, c2, u2, rfl, _, hh2, _⟩
  · simp [Value.ownBlock] at hg2
  simp only [Value.ownBlock, Option.some.injEq] at hg1 hg2
  subst hg1
  subst hg2
  rw [hh1] at hh2
  simp only [Option.some.injEq, Obj.cells.injEq] at hh2
  exact he hh2.2.1

def zero5 : Array Value := #[.int .i64 0, .int .i64 0, .int .i64 0, .int .i64 0, .slice none 0 0]
/-- behind some of the kids: the reader's mode; the result's block, the term's block, the kids' row, the names bound -/
structure GSt (E : REnv) (lv : Value) (en : Int) (b : Nat) (w : World) (k0 i0 j0 n0 : Int) (nv : Value) (nm : List (List UInt8)) (m : Md) (bv : Value) (bnd : List (List UInt8)) (rows : List (TT × Value)) (v : Value) (wr : World) : Prop where
  old : b < w.heap.size
  lvs : ∀ x, lv.ownBlock = some x → x < w.heap.size
  nvs : ∀ x, nv.ownBlock = some x → x ≠ w.heap.size + 1 ∧ some x ≠ v.ownBlock
  tn : Turn E lv en b w nv nm m wr
  res : wr.heap[w.heap.size]? = some (.cells zero5 24 (0, 0))
  box : wr.heap[w.heap.size + 1]? = some (.cells #[.int .i64 k0, .int .i64 i0, .int .i64 j0, .int .i64 n0, v] 24 (0, 0))
  own : wr.ownsRow (w.heap.size + 2) 24 5 v rows.length (kidCells rows)
  ownb : wr.ownsRow (w.heap.size + 2) 9 1 bv bnd.length (textRow bnd)
  kids : m.isBad = false → ∀ p ∈ rows, RepTS wr (fun x => w.heap.size + 2 ≤ x ∧ some x ≠ v.ownBlock ∧ some x ≠ bv.ownBlock) p.1.kids p.2 ∧ p.1.in4

section
variable {E : REnv} {lv : Value} {en : Int} {b : Nat} {w : World} {k0 i0 j0 n0 : Int} {nv : Value} {nm : List (List UInt8)} {m m' : Md} {bv : Value} {bnd : List (List UInt8)} {rows : List (TT × Value)} {v : Value} {wr w6 : World}

/-- nothing but the reader turns -/
theorem GSt.move (h : GSt E lv en b w k0 i0 j0 n0 nv nm m bv bnd rows v wr) (ht : Turn E lv en b wr nv nm m' w6) (hm : m'.isBad = false → m.isBad = false) : GSt E lv en b w k0 i0 j0 n0 nv nm m' bv bnd rows v w6 := by
  have hlt := h.old
  have g := ht.2
  have hres := h.res
  have hbox := h.box
  refine { old := h.old, lvs := h.lvs, nvs := h.nvs, tn := h.tn.trans ht, res := ?_, box := ?_, own := ?_, ownb := ?_, kids := ?_ }
  · rw [g.block _ (Array.getElem?_eq_some_iff.1 hres).1 (by simp; omega)]; exact hres
  · rw [g.block _ (Array.getElem?_eq_some_iff.1 hbox).1 (by simp; omega)]; exact hbox
  · exact h.own.kept g (.inr (fun he => by have := (h.own.lt b he).1; omega))
  · exact h.ownb.kept g (.inr (fun he => by have := (h.ownb.lt b he).1; omega))
  · intro hb p hp
    obtain ⟨h1, h2⟩ := h.kids (hm hb) p hp
    exact ⟨h1.kept g.size fun x hx hxl => ⟨g.block x hxl (by simp; omega), hx⟩, h2⟩
theorem GSt.drewN (h : GSt E lv en b w k0 i0 j0 n0 nv nm m bv bnd rows v wr) (n : Nat) : GSt E lv en b w k0 i0 j0 n0 nv nm m bv bnd rows v (wr.drewN n) :=
  h.move ⟨h.tn.1.drewN n, grown_drewN (grown_refl _ _) n⟩ id
theorem GSt.below (h : GSt E lv en b w k0 i0 j0 n0 nv nm m bv bnd rows v wr) (hb : Below wr.heap.size wr w6) : GSt E lv en b w k0 i0 j0 n0 nv nm m bv bnd rows v w6 :=
  h.move ⟨h.tn.1.kept hb, grown_below hb⟩ id
theorem GSt.alloc (h : GSt E lv en b w k0 i0 j0 n0 nv nm m bv bnd rows v wr) (o : Obj) : GSt E lv en b w k0 i0 j0 n0 nv nm m bv bnd rows v (wr.alloc o) := h.below (below_alloc _ _)

theorem Has.same {W W' : World} {size : Nat} {v : Value} {n : Nat} {xs : List Value} (h : Has W size v n xs) (hsz : W.heap.size ≤ W'.heap.size) (hh : ∀ x, v.ownBlock = some x → W'.heap[x]? = W.heap[x]?) : Has W' size v n xs := by
  refine ⟨h.1, ?_⟩
  rcases h.2 with h2 | ⟨g, o, c, rfl, hn, hb, hc⟩
  · exact .inl h2
  · exact .inr ⟨g, o, c, rfl, hn, Nat.lt_of_lt_of_le hb hsz, fun j hj => by rw [← hc j hj]; simp only [World.cell?, hh g rfl]⟩
theorem Has.own_lt {W : World} {size : Nat} {v : Value} {n : Nat} {xs : List Value} (h : Has W size v n xs) : ∀ x, v.ownBlock = some x → x < W.heap.size := by
  intro x hx
  rcases h.2 with ⟨rfl, _⟩ | ⟨g, o, c, rfl, hn, hb, hc⟩
  · simp [Value.ownBlock] at hx
  · simp only [Value.ownBlock, Option.some.injEq] at hx; omega
theorem Rr.same {W W' : World} (h : Rr E lv en b W nv nm m) (hio : W'.os = W.os ∧ W'.tape = W.tape ∧ W'.output = W.output) (hsz : W.heap.size ≤ W'.heap.size) (hb : ∀ x, x ≤ b → W'.heap[x]? = W.heap[x]?) (hl : ∀ x, lv.ownBlock = some x → W'.heap[x]? = W.heap[x]?) (hn : ∀ x, nv.ownBlock = some x → W'.heap[x]? = W.heap[x]?) : Rr E lv en b W' nv nm m := by
  obtain ⟨kk, x, hc, hm⟩ := h.cells
  have ht : TabB b W' := by
    obtain ⟨w0, h1, h2, h3⟩ := h.tab
    exact ⟨w0, h1, ⟨hio.1.trans h2.os, hio.2.1.trans h2.tape, hio.2.2.trans h2.output, Nat.le_trans h2.size hsz, fun x hx => (hb x (by omega)).trans (h2.block x hx)⟩, h3⟩
  exact { h with cells := ⟨kk, x, by rw [hb b (Nat.le_refl _)]; exact hc, hm⟩, has := h.has.same hsz hl, hasN := h.hasN.same hsz hn, tab := ht }

/-- a kid more -/
theorem GSt.push {wa w7 W8 : World} (hG : GSt E lv en b w k0 i0 j0 n0 nv nm m bv bnd rows v wa) {B : Nat} (hB : ∀ x, v.ownBlock = some x → x < B) (hBb : ∀ x, bv.ownBlock = some x → x < B) (hDB : w.heap.size + 2 ≤ B)
    {t : TT} {v1 : Value} (hrep : m.isBad = false → RepTS wa (fun x => B ≤ x) t.kids v1 ∧ t.in4) {g cap : Nat} (hg7 : w.heap.size + 2 ≤ g) (hgrow7 : wa.grownBy w7 v.ownBlock) (hat : v.ownBlock = some g ∨ g = wa.heap.size)
    (hsz : W8.heap.size = w7.heap.size) (hio : W8.os = w7.os ∧ W8.tape = w7.tape ∧ W8.output = w7.output) (hoth : ∀ x, x ≠ g → x ≠ w.heap.size + 1 → W8.heap[x]? = w7.heap[x]?)
    (hbox : W8.heap[w.heap.size + 1]? = some (.cells #[.int .i64 k0, .int .i64 i0, .int .i64 j0, .int .i64 n0, .slice (some ⟨g, 0, none⟩) (rows.length + 1) cap] 24 (0, 0)))
    (hown8 : W8.ownsRow (w.heap.size + 2) 24 5 (.slice (some ⟨g, 0, none⟩) (rows.length + 1) cap) (rows.length + 1) (kidCells (rows ++ [(t, v1)]))) :
    GSt E lv en b w k0 i0 j0 n0 nv nm m bv bnd (rows ++ [(t, v1)]) (.slice (some ⟨g, 0, none⟩) (rows.length + 1) cap) W8 := by
  have hlt := hG.old
  have hsa := hG.tn.2.size
  have hs7 := hgrow7.size
  have hrl := (Array.getElem?_eq_some_iff.1 hG.res).1
  have hvlt := fun x hx => hG.own.lt x hx
  have hblt := fun x hx => hG.ownb.lt x hx
  have hvb := own_ne hG.ownb hG.own (by decide)
  have hx : ∀ x, x < wa.heap.size → x ≠ w.heap.size + 1 → some x ≠ v.ownBlock → W8.heap[x]? = wa.heap[x]? := fun x h1 h2 h3 => by
    rw [hoth x ?_ h2, hgrow7.block x h1 h3]
    rcases hat with h | h
    · intro e; subst e; exact h3 h.symm
    · omega
  have hio' : W8.os = wa.os ∧ W8.tape = wa.tape ∧ W8.output = wa.output := ⟨hio.1.trans hgrow7.os, hio.2.1.trans hgrow7.tape, hio.2.2.trans hgrow7.output⟩
  have hxo : ∀ x, x < w.heap.size → W8.heap[x]? = wa.heap[x]? := fun x hl => hx x (by omega) (by omega) (fun he => by have := hvlt x he.symm; omega)
  have hnvl := hG.tn.1.hasN.own_lt
  refine { old := hlt, lvs := hG.lvs, nvs := ?_, tn := ⟨?_, ?_⟩, res := ?_, box := hbox, own := by simpa using hown8, ownb := ?_, kids := ?_ }
  · intro x hxn
    refine ⟨(hG.nvs x hxn).1, ?_⟩
    simp only [Value.ownBlock]
    rcases hat with h | h
    · rw [← h]; exact (hG.nvs x hxn).2
    · have := hnvl x hxn; simp; omega
  · exact hG.tn.1.same hio' (by omega) (fun x hxb => hxo x (by omega)) (fun x hxl => hxo x (hG.lvs x hxl)) (fun x hxn => hx x (hnvl x hxn) (hG.nvs x hxn).1 (hG.nvs x hxn).2)
  · have g := hG.tn.2
    exact ⟨hio'.1.trans g.os, hio'.2.1.trans g.tape, hio'.2.2.trans g.output, by omega, fun x hl hn => (hxo x hl).trans (g.block x hl hn)⟩
  · rw [hx _ hrl (by omega) (fun he => by have := hvlt _ he.symm; omega)]; exact hG.res
  · refine ⟨hG.ownb.1, ?_⟩
    rcases hG.ownb.2 with h | ⟨gb, capb, cur, rfl, hgb, hh, hr⟩
    · exact .inl h
    · refine .inr ⟨gb, capb, cur, rfl, hgb, ?_, hr⟩
      rw [hx gb (Array.getElem?_eq_some_iff.1 hh).1 (by omega) (fun he => hvb gb rfl he.symm)]
      exact hh
  · intro hm p hp
    rcases List.mem_append.1 hp with hp | hp
    · obtain ⟨h1, h2⟩ := hG.kids hm p hp
      refine ⟨h1.kept (by omega) fun x hx1 hxl => ⟨hx x hxl (by omega) hx1.2.1, hx1.1, ?_, hx1.2.2⟩, h2⟩
      simp only [Value.ownBlock]
      rcases hat with h | h
      · rw [← h]; exact hx1.2.1
      · simp; omega
    · obtain rfl : p = (t, v1) := by simpa using hp
      obtain ⟨h1, h2⟩ := hrep hm
      refine ⟨h1.kept (by omega) fun x hx1 hxl => ⟨hx x hxl (by omega) (fun he => by have := hB x he.symm; omega), by omega, ?_, fun he => by have := hBb x he.symm; omega⟩, h2⟩
      simp only [Value.ownBlock]
      rcases hat with h | h
      · have := hB g h; simp; omega
      · simp; omega

/-- the term's block alone turns, and not its kids -/
theorem GSt.setbox (h : GSt E lv en b w k0 i0 j0 n0 nv nm m bv bnd rows v wr) (off : Nat) (u : Value) {k1 i1 j1 n1 : Int} (hc : (#[.int .i64 k0, .int .i64 i0, .int .i64 j0, .int .i64 n0, v] : Array Value).setIfInBounds off u = #[.int .i64 k1, .int .i64 i1, .int .i64 j1, .int .i64 n1, v]) :
    GSt E lv en b w k1 i1 j1 n1 nv nm m bv bnd rows v (wr.setCell ⟨w.heap.size + 1, off, none⟩ u) := by
  have hlt := h.old
  have g1 : wr.grownBy (wr.setCell ⟨w.heap.size + 1, off, none⟩ u) (some (w.heap.size + 1)) := grown_set (grown_refl _ _) off u
  have hx : ∀ x, x ≠ w.heap.size + 1 → (wr.setCell ⟨w.heap.size + 1, off, none⟩ u).heap[x]? = wr.heap[x]? := fun x hx => Below.heap_setCell _ _ _ _ hx
  have hio : (wr.setCell ⟨w.heap.size + 1, off, none⟩ u).os = wr.os ∧ (wr.setCell ⟨w.heap.size + 1, off, none⟩ u).tape = wr.tape ∧ (wr.setCell ⟨w.heap.size + 1, off, none⟩ u).output = wr.output := ⟨g1.os, g1.tape, g1.output⟩
  refine { old := hlt, lvs := h.lvs, nvs := h.nvs, tn := ⟨?_, ?_⟩, res := ?_, box := ?_, own := ?_, ownb := ?_, kids := ?_ }
  · exact h.tn.1.same hio g1.size (fun x hxb => hx x (by omega)) (fun x hxl => hx x (by have := h.lvs x hxl; omega)) (fun x hxn => hx x (h.nvs x hxn).1)
  · have g := h.tn.2
    exact ⟨hio.1.trans g.os, hio.2.1.trans g.tape, hio.2.2.trans g.output, Nat.le_trans g.size g1.size, fun x hl hn => (hx x (by omega)).trans (g.block x hl hn)⟩
  · rw [hx _ (by omega)]; exact h.res
  · rw [set1_at h.box off u, hc]
  · exact h.own.kept g1 (.inr (fun he => by have := (h.own.lt _ he).1; omega))
  · exact h.ownb.kept g1 (.inr (fun he => by have := (h.ownb.lt _ he).1; omega))
  · intro hm p hp
    obtain ⟨h1, h2⟩ := h.kids hm p hp
    exact ⟨h1.kept g1.size fun x hx1 hxl => ⟨hx x (by omega), hx1⟩, h2⟩

/-- other names -/
theorem GSt.rename (h : GSt E lv en b w k0 i0 j0 n0 nv nm m bv bnd rows v wr) {nv' : Value} {nm' : List (List UInt8)} (hN : Has wr 1 nv' nm'.length (textRow nm')) (hf : ∀ x, nv'.ownBlock = some x → x ≠ b ∧ x ≠ w.heap.size + 1 ∧ some x ≠ v.ownBlock) :
    GSt E lv en b w k0 i0 j0 n0 nv' nm' m bv bnd rows v (wr.setCell ⟨b, 3, none⟩ nv') := by
  have hlt := h.old
  have g1 : wr.grownBy (wr.setCell ⟨b, 3, none⟩ nv') (some b) := grown_set (grown_refl _ _) 3 nv'
  have hx : ∀ x, x ≠ b → (wr.setCell ⟨b, 3, none⟩ nv').heap[x]? = wr.heap[x]? := fun x hx => Below.heap_setCell _ _ _ _ hx
  refine { old := hlt, lvs := h.lvs, nvs := fun x hx => (hf x hx).2, tn := ⟨?_, grown_trans h.tn.2 g1⟩, res := ?_, box := ?_, own := ?_, ownb := ?_, kids := ?_ }
  · exact h.tn.1.names hN (fun he => (hf b he).1 rfl)
  · rw [hx _ (by omega)]; exact h.res
  · rw [hx _ (by omega)]; exact h.box
  · exact h.own.kept g1 (.inr (fun he => by have := (h.own.lt _ he).1; omega))
  · exact h.ownb.kept g1 (.inr (fun he => by have := (h.ownb.lt _ he).1; omega))
  · intro hm p hp
    obtain ⟨h1, h2⟩ := h.kids hm p hp
    exact ⟨h1.kept g1.size fun x hx1 hxl => ⟨hx x (by omega), hx1⟩, h2⟩

/-- a name more is bound -/
theorem GSt.bound (h : GSt E lv en b w k0 i0 j0 n0 nv nm m bv bnd rows v wr) {w7 : World} {bv' : Value} {bnd' : List (List UInt8)} (hgrow : wr.grownBy w7 bv.ownBlock) (hat : ∀ g, bv'.ownBlock = some g → bv.ownBlock = some g ∨ wr.heap.size ≤ g) (hnvb : ∀ x, nv.ownBlock = some x → some x ≠ bv.ownBlock)
    (hown : w7.ownsRow (w.heap.size + 2) 9 1 bv' bnd'.length (textRow bnd')) : GSt E lv en b w k0 i0 j0 n0 nv nm m bv' bnd' rows v w7 := by
  have hlt := h.old
  have hsz := h.tn.2.size
  have hblt := fun x hx => h.ownb.lt x hx
  have hrl := (Array.getElem?_eq_some_iff.1 h.box).1
  have hvb := own_ne h.own h.ownb (by decide)
  have hx : ∀ x, x < wr.heap.size → some x ≠ bv.ownBlock → w7.heap[x]? = wr.heap[x]? := fun x h1 h2 => hgrow.block x h1 h2
  have hxo : ∀ x, x < w.heap.size + 2 → w7.heap[x]? = wr.heap[x]? := fun x hl => hx x (by omega) (fun he => by have := hblt x he.symm; omega)
  refine { old := hlt, lvs := h.lvs, nvs := h.nvs, tn := ⟨?_, ?_⟩, res := ?_, box := ?_, own := ?_, ownb := hown, kids := ?_ }
  · exact h.tn.1.same ⟨hgrow.os, hgrow.tape, hgrow.output⟩ hgrow.size (fun x hxb => hxo x (by omega)) (fun x hxl => hxo x (by have := h.lvs x hxl; omega)) (fun x hxn => hx x (h.tn.1.hasN.own_lt x hxn) (hnvb x hxn))
  · have g := h.tn.2
    exact ⟨hgrow.os.trans g.os, hgrow.tape.trans g.tape, hgrow.output.trans g.output, Nat.le_trans g.size hgrow.size, fun x hl hn => (hxo x (by omega)).trans (g.block x hl hn)⟩
  · rw [hxo _ (by omega)]; exact h.res
  · rw [hxo _ (by omega)]; exact h.box
  · refine h.own.kept hgrow ?_
    by_cases he : v.ownBlock = none
    · exact .inl he
    · obtain ⟨g, hg⟩ := Option.ne_none_iff_exists'.1 he
      exact .inr (fun he => hvb g hg (by rw [← he]; exact hg))
  · intro hm p hp
    obtain ⟨h1, h2⟩ := h.kids hm p hp
    refine ⟨h1.kept hgrow.size fun x hx1 hxl => ⟨hx x hxl hx1.2.2, hx1.1, hx1.2.1, fun he => ?_⟩, h2⟩
    rcases hat x he.symm with h3 | h3
    · exact hx1.2.2 h3.symm
    · omega
end

/-- what a call that reads a term ends in -/
def TermPost (E : REnv) (lv : Value) (en : Int) (b : Nat) (w : World) (nv : Value) (nm : List (List UInt8)) (r : RR TT) (e : Ending) (w' : World) : Prop :=
  ∃ (t : TT) (a : Option Addr) (l c : Nat), e = .returned (termV t.kd t.ni t.nj t.nn (.slice a l c)) ∧ Turn E lv en b w nv nm r.md w' ∧ (∀ t' k', r = .ok t' k' → t' = t ∧ RepTS w' (fun x => w.heap.size ≤ x) t.kids (.slice a l c) ∧ t.in4)
def TermC (E : REnv) (lv : Value) (en : Int) (b : Nat) (fuel : Nat) : Prop :=
  ∀ (nv : Value) (nm : List (List UInt8)) (k want : Nat) (w : World), Rr E lv en b w nv nm (.ok k) → E.l.length < k + fuel → nm.length + E.l.length ≤ 2199023255552 + k → want ≤ 2 →
    Calls Tryd.prog 31 #[.pointer (some ⟨b, 0, none⟩), .int .i64 want] w (TermPost E lv en b w nv nm (termM E fuel nm want k))
end Go.Proofs.YtfklmcmoackepaaDoor
