/- Walk of the parser's deriv: the kids, and the whole. Walk of the parser's deriv: the kids. -/
import Derived.Test.YtfpiogaakblpeaaDoorParN
import Derived.Test.YtfpiogaakblpeaaDoorPan
import Derived.Deep.RegionHeld3
import Derived.Deep.AppendLies
import Derived.Test.YtfpiogaakblpeaaDoorParT
namespace Go.Proofs.YtfpiogaakblpeaaDoor
open Go.RowKit

def kidCells (l : List (DT × Value)) : List Value := l.flatMap fun p => [.int .i64 p.1.rule, .int .i64 p.1.idx, p.2]
theorem kidCells_length (l : List (DT × Value)) : (kidCells l).length = l.length * 3 := by
  induction l with
  | nil => rfl
  | cons p l ih => simp only [kidCells, List.flatMap_cons, List.length_append, List.length_cons, List.length_nil] at *; omega
theorem kidCells_append (a b : List (DT × Value)) : kidCells (a ++ b) = kidCells a ++ kidCells b := by simp [kidCells]
theorem kidCells_at : ∀ (l : List (DT × Value)) (i : Nat) (h : i < l.length), (kidCells l)[i * 3]? = some (.int .i64 l[i].1.rule) ∧ (kidCells l)[i * 3 + 1]? = some (.int .i64 l[i].1.idx) ∧ (kidCells l)[i * 3 + 2]? = some l[i].2
  | p :: l, 0, _ => ⟨rfl, rfl, rfl⟩
  | p :: l, i + 1, h => by
    have := kidCells_at l i (by simpa using h)
    simp only [kidCells, List.flatMap_cons] at *
    have e : ∀ j, (([Value.int .i64 p.1.rule, .int .i64 p.1.idx, p.2] : List Value) ++ List.flatMap (fun p : DT × Value => [Value.int .i64 p.1.rule, .int .i64 p.1.idx, p.2]) l)[(i + 1) * 3 + j]? = (List.flatMap (fun p : DT × Value => [Value.int .i64 p.1.rule, .int .i64 p.1.idx, p.2]) l)[i * 3 + j]? := by
      intro j
      rw [List.getElem?_append_right (by simp; omega)]
      congr 1
      simp; omega
    have e0 := e 0
    simp only [Nat.add_zero] at e0
    rw [e0, e 1, e 2]
    simpa using this

theorem repS_of_owns {w : World} {base : Nat} {t : TypeId} {v : Value} {rows : List (DT × Value)} {S : Nat → Prop} (hown : w.ownsRow base t 3 v rows.length (kidCells rows)) (hS : ∀ g, v.ownBlock = some g → S g)
    (hk : ∀ p ∈ rows, RepS w S p.1.kids p.2 ∧ In64 p.1.rule ∧ In64 p.1.idx) : RepS w S (rows.map Prod.fst) v := by
  rcases hown.2 with ⟨rfl, h0⟩ | ⟨g, cap, cur, rfl, hg, hh, hn, hc, hr⟩
  · have : rows = [] := List.eq_nil_of_length_eq_zero h0
    subst this
    exact .nil _ _
  · have hrow := RepS.row (w := w) (S := S) g 0 cap (rows.map Prod.fst) (fun j => (rows[j]?.map Prod.snd).getD undef) (by simp; omega) (Array.getElem?_eq_some_iff.1 hh).1 (hS g rfl) (fun j r i l hj => ?_) (fun j r i l hj => ?_)
    · simpa using hrow
    · rw [List.getElem?_map] at hj
      obtain ⟨p, hp, he⟩ := Option.map_eq_some_iff.1 hj
      obtain ⟨hlt, hpe⟩ := List.getElem?_eq_some_iff.1 hp
      have hat := kidCells_at rows j hlt
      rw [hpe, he] at hat
      have hm := hk p (List.mem_of_getElem? hp)
      rw [he] at hm
      have c0 := hown.cellAt (g := g) (j * 3) (by omega)
      have c1 := hown.cellAt (g := g) (j * 3 + 1) (by omega)
      have c2 := hown.cellAt (g := g) (j * 3 + 2) (by omega)
      simp only [Nat.zero_add]
      rw [c0, c1, c2, hat.1, hat.2.1, hat.2.2, hp]
      exact ⟨rfl, rfl, rfl, hm.2.1, hm.2.2⟩
    · rw [List.getElem?_map] at hj
      obtain ⟨p, hp, he⟩ := Option.map_eq_some_iff.1 hj
      have hm := hk p (List.mem_of_getElem? hp)
      rw [he] at hm
      rw [hp]
      exact hm.1

def ResPost (w : World) (b : Nat) (toks : List Tok) (lv : Value) (en : Int) (df wf : Nat) : Res DT → Ending → World → Prop
  | .ok d k' n' => OkPost w b toks lv en df wf d k' n'
  | .bad k' y => BadPost w b toks en k' y

/-- the contract of deriv at one fuel -/
def DerivC (b : Nat) (toks : List Tok) (lv : Value) (en : Int) (df wf : Nat) (w0 : World) (fuel : Nat) : Prop :=
  ∀ (k n deep : Nat) (w : World), Rd w b toks lv k en n df wf → Below w0.heap.size w0 w → toks.length < k + fuel → k ≤ toks.length → n ≤ k → deep ≤ k + 1 →
    Calls Tryd.prog 63 #[.pointer (some ⟨b, 0, none⟩), .int .i64 deep] w
      (ResPost w b toks lv en df wf (derivM ⟨toks, fun m => withinB m df, fun m => withinB m wf⟩ fuel deep k n))

/-- behind j kids: the rows so far, the slice that holds them -/
structure KSt (w : World) (b : Nat) (toks : List Tok) (lv : Value) (en : Int) (df wf : Nat) (dbox rr c k n : Nat) (f : Nat → Nat → Res DT) (j kk nn : Nat) (rows : List (DT × Value)) (v : Value) (wr : World) : Prop where
  jc : j ≤ c
  len : rows.length = j
  eq : kidsM f c (k + 2) (n + 1) [] = kidsM f (c - j) kk nn (rows.map Prod.fst)
  st : PSt w b toks lv kk en nn df wf wr
  box : wr.heap[dbox]? = some (.cells #[.int .i64 rr, .int .i64 0, v] 24 (0, 0))
  own : wr.ownsRow (dbox + 1) 24 3 v rows.length (kidCells rows)
  kids : ∀ p ∈ rows, RepS wr (fun x => dbox < x ∧ some x ≠ v.ownBlock) p.1.kids p.2 ∧ In64 p.1.rule ∧ In64 p.1.idx
  k1 : k + 2 ≤ kk
  k2 : kk ≤ toks.length
  n1 : nn + (k + 2) ≤ n + 1 + kk

def PanR (w : World) (b : Nat) (toks : List Tok) (en : Int) (k : Nat) (y : Why) (chain : List PanicEntry) (w' : World) : Prop := chain = faultV (errOf y) (placeT toks k en) (wordOf y) ∧ w.grownBy w' (some b)

theorem Tryd.infoDeriv : (Tryd.prog.info? 24).map (fun i => (i.zero, i.size, i.bytes)) = some (some (.agg #[.int .i64 0, .int .i64 0, .slice none 0 0]), 3, 40) := by kernel_rfl

theorem KSt.next {w wr w6 w7 : World} {b : Nat} {toks : List Tok} {lv : Value} {en k0 n0 : Int} {df wf : Nat} {dbox rr c k n : Nat} {F : Nat → Nat → Res DT} {j kk nn k' n' : Nat} {rows : List (DT × Value)} {v v1 : Value} {d : DT} {g cap : Nat} {o : Obj}
    (h0 : Rd w b toks lv k0 en n0 df wf) (hbd : b < dbox) (hwd : w.heap.size < dbox) (hK : KSt w b toks lv en df wf dbox rr c k n F j kk nn rows v wr) (hlt : j < c) (hltw : dbox < wr.heap.size)
    (hkm : kidsM F c (k + 2) (n + 1) [] = kidsM F (c - (j + 1)) k' n' (rows.map Prod.fst ++ [d])) (hmov : kk < k' ∧ k' ≤ toks.length ∧ n' ≤ nn + (k' - kk) ∧ nn ≤ n')
    (hrep1 : RepS w6 (fun x => (wr.drewN 1).heap.size ≤ x) d.kids v1) (hx1 : In64 d.rule) (hx2 : In64 d.idx) (hrd6 : Rd w6 b toks lv k' en n' df wf) (hg6 : wr.grownBy w6 (some b))
    (hown7 : w7.ownsRow (dbox + 1) 24 3 (.slice (some ⟨g, 0, none⟩) (rows.length + 1) cap) (rows.length + 1) (kidCells rows ++ [.int .i64 d.rule, .int .i64 d.idx, v1])) (hgrow7 : (w6.alloc o).grownBy w7 v.ownBlock)
    (hat7 : v.ownBlock = some g ∨ g = w6.heap.size + 1) (hbx7 : w7.heap[dbox]? = some (.cells #[.int .i64 rr, .int .i64 0, v] 24 (0, 0))) :
    KSt w b toks lv en df wf dbox rr c k n F (j + 1) k' n' (rows ++ [(d, v1)]) (.slice (some ⟨g, 0, none⟩) (rows.length + 1) cap) (w7.setCell ⟨dbox, 2, none⟩ (.slice (some ⟨g, 0, none⟩) (rows.length + 1) cap)) := by
  have hvlt : ∀ x, v.ownBlock = some x → dbox + 1 ≤ x ∧ x < wr.heap.size := fun x hx => hK.own.lt x hx
  have hs6 := hg6.size
  have hs7 : w6.heap.size + 1 ≤ w7.heap.size := by have := hgrow7.size; simpa using this
  have hgge : dbox + 1 ≤ g := (hown7.lt g rfl).1
  have hBx : ∀ x, x < w6.heap.size → x ≠ dbox → some x ≠ v.ownBlock → (w7.setCell ⟨dbox, 2, none⟩ (.slice (some ⟨g, 0, none⟩) (rows.length + 1) cap)).heap[x]? = w6.heap[x]? := fun x h1 h2 h3 => by
    rw [Below.heap_setCell _ _ _ _ h2, hgrow7.block x (by simp; omega) h3, Lib.alloc_old _ _ _ h1]
  have hAx : ∀ x, x < wr.heap.size → x ≠ b → x ≠ dbox → some x ≠ v.ownBlock → (w7.setCell ⟨dbox, 2, none⟩ (.slice (some ⟨g, 0, none⟩) (rows.length + 1) cap)).heap[x]? = wr.heap[x]? := fun x h1 h2 h3 h4 => by
    rw [hBx x (by omega) h3 h4, hg6.block x h1 (by simpa using h2)]
  have hsz8 : (w7.setCell ⟨dbox, 2, none⟩ (.slice (some ⟨g, 0, none⟩) (rows.length + 1) cap)).heap.size = w7.heap.size := by simp [World.setCell]
  have hg : w.grownBy (w7.setCell ⟨dbox, 2, none⟩ (.slice (some ⟨g, 0, none⟩) (rows.length + 1) cap)) (some b) := by
    refine ⟨?_, ?_, ?_, ?_, fun x h1 h2 => ?_⟩
    · exact (hgrow7.os.trans hg6.os).trans hK.st.gr.os
    · exact (hgrow7.tape.trans hg6.tape).trans hK.st.gr.tape
    · exact (hgrow7.output.trans hg6.output).trans hK.st.gr.output
    · rw [hsz8]; have := hK.st.gr.size; omega
    · rw [hAx x (by omega) (by simpa using h2) (by omega) (fun he => by have := hvlt x he.symm; omega)]
      exact hK.st.gr.block x h1 h2
  refine { jc := by omega, len := by simp [hK.len], eq := by rw [hkm]; simp, st := ⟨⟨?_, h0.has.grown hg h0.far, h0.far⟩, hg, ?_⟩, box := ?_, own := ?_, kids := ?_, k1 := by have := hK.k1; omega, k2 := hmov.2.1, n1 := by have := hK.n1; omega }
  · rw [hBx b (by omega) (by omega) (fun he => by have := hvlt b he.symm; omega)]
    exact hrd6.cells
  · rw [hAx _ (by omega) (by have := h0.lt; omega) (by omega) (fun he => by have := hvlt _ he.symm; omega)]
    exact hK.st.res
  · simp [World.setCell, Array.getElem?_modify, hbx7]
  · have h1 := hown7.kept (grown_set (grown_refl w7 (some dbox)) 2 (.slice (some ⟨g, 0, none⟩) (rows.length + 1) cap)) (.inr (by simp [Value.ownBlock]; omega))
    simpa [kidCells_append, kidCells] using h1
  · intro p hp
    rcases List.mem_append.1 hp with hp | hp
    · obtain ⟨h1, h2⟩ := hK.kids p hp
      refine ⟨h1.kept (by rw [hsz8]; omega) fun x hx hxl => ⟨hAx x hxl (by omega) (by omega) hx.2, hx.1, ?_⟩, h2⟩
      simp only [Value.ownBlock]
      rcases hat7 with h | h
      · rw [← h]; exact hx.2
      · simp; omega
    · obtain rfl : p = (d, v1) := by simpa using hp
      have hds : (wr.drewN 1).heap.size = wr.heap.size := rfl
      rw [hds] at hrep1
      refine ⟨hrep1.kept (by rw [hsz8]; omega) fun x hx hxl => ⟨hBx x hxl (by omega) (fun he => by have := hvlt x he.symm; omega), by omega, ?_⟩, hx1, hx2⟩
      simp only [Value.ownBlock]
      rcases hat7 with h | h
      · have := hvlt g h; simp; omega
      · simp; omega
end Go.Proofs.YtfpiogaakblpeaaDoor

namespace Go.Proofs.YtfpiogaakblpeaaDoor
open Go.RowKit

section
variable (b : Nat) (toks : List Tok) (lv : Value) (k : Nat) (en : Int) (n : Nat) (df wf : Nat) (deep : Nat) (w w0 : World)

set_option maxHeartbeats 1600000 in
set_option maxRecDepth 100000 in
theorem deriv_kids (fuel : Nat) (ih : DerivC b toks lv en df wf w0 fuel) (h : Rd w b toks lv k en n df wf) (hw0 : w0.heap.size ≤ b) (hB : Below w0.heap.size w0 w) (h1 : kindAt toks k = 1) (h2 : withinB deep df = true) (h3 : withinB ((n : Int) + 1) wf = true) (hn : n ≤ k) (hdk : deep ≤ k + 1) (hf : toks.length < k + (fuel + 1)) (hl : toks.length ≤ 1099511627776)
    (h4 : kindAt toks (k + 1) = 3) (rr c : Nat) (hrr : ruleI (textAt toks (k + 1)) = rr) (hc : kidsI rr = c) (hc4 : c ≤ 4) (hr28 : rr ≤ 28) (h5 : rr ≠ 0 ∧ rr ≠ 1 ∧ rr ≠ 2) :
    Calls Tryd.prog 63 #[.pointer (some ⟨b, 0, none⟩), .int .i64 deep] w
      (ResPost w b toks lv en df wf (closeM toks rr 0 (kidsM (derivM ⟨toks, fun m => withinB m df, fun m => withinB m wf⟩ fuel (deep + 1)) c (k + 2) (n + 1) []))) := by
  have PS0 := Lib.hid (PSt.start h)
  have HR0 := Lib.hid h
  have hb := h.lt
  have H1 := Lib.hid h1
  have hk := kindAt_lt (l := toks) (k := k) (by omega)
  have hk1 := kindAt_lt (l := toks) (k := k + 1) (by omega)
  have H4 := Lib.hid h4
  have HRR := Lib.hid hrr
  have HC := Lib.hid hc
  have HB := Lib.hid hB
  have HI : Hid (In64 (rr : Int)) := Lib.hid (in64_nat (by omega))
  have HMOV : Hid (∀ k n, k ≤ toks.length → Moves toks k n (derivM ⟨toks, fun m => withinB m df, fun m => withinB m wf⟩ fuel (deep + 1) k n)) := Lib.hid (fun k n hk => derivM_moves ⟨toks, fun m => withinB m df, fun m => withinB m wf⟩ fuel (deep + 1) k n hk)
  have HWR : Hid (IntKind.i64.wrap ((deep : Int) + 1) = (deep : Int) + 1) := Lib.hid (IntWalk.i64_in _ (by omega))
  have hrz : ((rr : Int) == 0) = false := by simp; omega
  have hr1 : ((rr : Int) == 1) = false := by simp; omega
  have hr2 : ((rr : Int) == 2) = false := by simp; omega
  have IH : Hid (∀ (k n : Nat) (w : World), Rd w b toks lv k en n df wf → Below w0.heap.size w0 w → toks.length < k + fuel → k ≤ toks.length → n ≤ k → deep ≤ k →
    Calls Tryd.prog 63 #[.pointer (some ⟨b, 0, none⟩), .int .i64 ((deep : Int) + 1)] w
      (ResPost w b toks lv en df wf (derivM ⟨toks, fun m => withinB m df, fun m => withinB m wf⟩ fuel (deep + 1) k n))) := Lib.hid (fun k n w a1 a2 a3 a4 a5 a6 => ih k n (deep + 1) w a1 a2 a3 a4 a5 (by omega))
  obtain ⟨c0, c1, c2, c3, c4, c5⟩ := PS0.out.rd.at
  obtain ⟨i0, hi, hi0, hi1, hi2⟩ := info_parts Tryd.infoDeriv
  have HINF := Lib.hid (And.intro hi (And.intro hi0 (And.intro hi1 hi2)))
  clear h h1 h4 hrr hB h5 hc ih hi hi0 hi1 hi2
  generalize hF : derivM ⟨toks, fun m => withinB m df, fun m => withinB m wf⟩ fuel (deep + 1) = F at HMOV IH
  clear hF
  go_enter Tryd.func63, Tryd.ntmps63
  go_wp2_with fail
  refine (take_ok b toks lv k en n df wf 1 (by decide) _ PS0.out.rd H1.out).mono ?_
  rintro e w1 ⟨rfl, hrd1, hg1, hz1⟩
  have PS1 := Lib.hid (PS0.out.next hb hrd1 hg1)
  clear hrd1 hg1 hz1 c0 c1 c2 c3 c4 c5
  obtain ⟨c0, c1, c2, c3, c4, c5⟩ := PS1.out.rd.at
  have f3 := PS1.out.rd.fz 3
  have hb1 := PS1.out.rd.lt
  go_wp2_with fail
  refine (within_any _ _ _).mono ?_
  rintro e w1' ⟨rfl, rfl⟩
  go_wp2_with fail
  go_quiet ((go_at_call 73; exact quietR (within_any _ _ _)))
  have PS2 := Lib.hid ((PS1.out.next hb (PS1.out.rd.set3 ((n : Int) + 1)) (grown_set (grown_refl _ _) 3 _)).drewN nq)
  generalize hw2 : (w1.setCell ⟨b, 3, none⟩ (.int .i64 ((n : Int) + 1))).drewN nq = w2 at PS2
  clear hw2 c0 c1 c2 c3 c4 c5 f3 hb1 PS1
  go_wp2_with fail
  refine (take_ok b toks lv (k + 1) en _ df wf 3 (by decide) _ PS2.out.rd H4.out).mono ?_
  rintro e w3 ⟨rfl, hrd3, hg3, hz3⟩
  have PS3 := Lib.hid (PS2.out.next hb hrd3 hg3)
  clear hrd3 hg3 hz3
  go_wp2_with fail
  refine (rule_any _ _).mono ?_
  rintro e w4 ⟨rfl, hb4⟩
  have PS4 := Lib.hid (PS3.out.below hb hb4)
  clear hb4
  have hru : ruleI (ByteArray.mk (textAt toks (k + 1)).toArray).data.toList = rr := HRR.out
  rw [hru]
  clear hru
  have PS5 := Lib.hid (PS4.out.below hb (below_alloc w4 (.cells #[.int .i64 rr, .int .i64 0, .slice none 0 0] 24)))
  have hbw4 : b < w4.heap.size := PS4.out.rd.lt
  have hrw4 : w.heap.size < w4.heap.size := (Array.getElem?_eq_some_iff.1 PS4.out.res).1
  go_wp2_with fail
  refine (kids_any _ _).mono ?_
  rintro e w5 ⟨rfl, rfl⟩
  rw [HC.out]
  have K0 : Hid (KSt w b toks lv en df wf w4.heap.size rr c k n F 0 (k + 2) (n + 1) [] (.slice none 0 0) (w4.alloc (.cells #[.int .i64 rr, .int .i64 0, .slice none 0 0] 24))) := Lib.hid
    { jc := Nat.zero_le _, len := rfl, eq := rfl, st := by have := PS5.out; simpa [Int.add_assoc] using this, box := new_heap _ _ _, own := World.ownsRow_nil _ _ _ _, kids := fun p hp => by simp at hp, k1 := Nat.le_refl _, k2 := by omega, n1 := by omega }
  go_wp2_with fail
  go_loopw [75] (fun ix wr => ∃ (j kk nn : Nat) (rows : List (DT × Value)) (v : Value), ix = .int .i64 j ∧ KSt w b toks lv en df wf w4.heap.size rr c k n F j kk nn rows v wr) (fun i _ => c - (intOf i).toNat)
  case atStart => exact ⟨0, _, _, _, _, rfl, K0.out⟩
  case round =>
    obtain ⟨j, kk, nn, rows, v, rfl, hK⟩ := hrel
    have hjc := hK.jc
    have hk1' := hK.k1
    have hk2' := hK.k2
    have hn1' := hK.n1
    have hlen := hK.len
    have hbox := hK.box
    have HBWR : Hid (Below w0.heap.size w0 wr) := Lib.hid (HB.out.trans (below_of_grown hK.st.gr hw0 HB.out.size))
    have d2 : wr.cell? ⟨w4.heap.size, 2, none⟩ = some v := by simp [World.cell?, hbox]
    have hltw := (Array.getElem?_eq_some_iff.1 hbox).1
    have HK := Lib.hid hK
    have HLEN := Lib.hid hlen
    clear hK hlen hbox
    by_cases hlt : j < c
    · cases hq : F kk nn with
      | bad k' y =>
        have HRES : Hid (closeM toks rr 0 (kidsM F c (k + 2) (n + 1) []) = .bad k' y) := Lib.hid (by
          rw [HK.out.eq, show c - j = (c - j - 1) + 1 by omega]
          simp only [kidsM, hq, closeM])
        have HCALL : Hid (∀ m, Calls Tryd.prog 63 #[.pointer (some ⟨b, 0, none⟩), .int .i64 ((deep : Int) + 1)] (wr.drewN m) (BadPost (wr.drewN m) b toks en k' y)) := Lib.hid (fun m => by
          have := IH.out kk nn (wr.drewN m) (HK.out.st.rd.drewN m) (below_drewN HBWR.out m) (by omega) (by omega) (by omega) (by omega)
          rw [hq] at this
          exact this)
        clear hq
        go_wp2_with fail
        refine wp_region_pan_lit 5 [6, 7, 9] (PanR wr b toks en k' y) (by kernel_rfl) (by kernel_rfl) (by kernel_rfl) (by kernel_rfl) ?_ ?_
        · rintro chain a' w'' hd ⟨rfl, hg⟩
          refine ⟨hd, ?_⟩
          rw [HRES.out]
          exact ⟨rfl, grown_trans HK.out.st.gr hg⟩
        · iterate 5 (refine pan_still rfl rfl rfl (fun K hK => ?_); go_simp; refine hK _ ?_; clear hK K)
          refine pan_call rfl rfl rfl (fun m => ?_) ?_
          · go_simp
            rw [HWR.out]
            refine (HCALL.out m).mono ?_
            rintro e w'' ⟨rfl, hg⟩
            exact ⟨_, rfl, ⟨rfl, grown_trans (grown_drewN (grown_refl _ _) m) hg⟩⟩
          refine pan_late rfl rfl rfl rfl ?_
          refine pan_late rfl rfl rfl rfl ?_
          refine pan_still rfl rfl rfl (fun K hK => ?_)
          go_simp
          refine hK _ ?_
          clear hK K
          refine pan_late rfl rfl rfl rfl ?_
          exact yLex_end trivial
      | ok d k' n' =>
        have hmov := HMOV.out kk nn hk2'
        rw [hq] at hmov
        simp only [Moves] at hmov
        have HKM : Hid (kidsM F c (k + 2) (n + 1) [] = kidsM F (c - (j + 1)) k' n' (rows.map Prod.fst ++ [d])) := Lib.hid (by
          rw [HK.out.eq, show c - j = (c - (j + 1)) + 1 by omega]
          simp only [kidsM, hq])
        have HCALL : Hid (∀ m, Calls Tryd.prog 63 #[.pointer (some ⟨b, 0, none⟩), .int .i64 ((deep : Int) + 1)] (wr.drewN m) (OkPost (wr.drewN m) b toks lv en df wf d k' n')) := Lib.hid (fun m => by
          have := IH.out kk nn (wr.drewN m) (HK.out.st.rd.drewN m) (below_drewN HBWR.out m) (by omega) (by omega) (by omega) (by omega)
          rw [hq] at this
          exact this)
        clear hq
        have hwr := HWR.out
        obtain ⟨hi, hi0, hi1, hi2⟩ := HINF.out
        have HBX : Hid (wr.heap[w4.heap.size]? = some (.cells #[.int .i64 rr, .int .i64 0, v] 24 (0, 0))) := Lib.hid HK.out.box
        have HOWN := Lib.hid HK.out.own
        go_wp2_with fail
        have hrl : rows.length ≤ 4 := by rw [HLEN.out]; omega
        go_region_law
          (first
            | (go_simp
               go_at_call 63
               refine (HCALL.out 1).mono ?_
               rintro e w6 ⟨v1, rfl, hrep1, hx1, hx2, hrd6, hg6⟩
               obtain ⟨hl1, a1, c1, rfl⟩ := hrep1.form
               have hg6' : wr.grownBy w6 (some b) := grown_trans (grown_drewN (grown_refl _ _) 1) hg6
               have hbx6 : w6.heap[w4.heap.size]? = some (.cells #[.int .i64 rr, .int .i64 0, v] 24 (0, 0)) := by
                 rw [hg6'.block _ hltw (by simp; omega)]; exact HBX.out
               have kd2 : w6.cell? ⟨w4.heap.size, 2, none⟩ = some v := by simp [World.cell?, hbx6]
               have hnb : v.ownBlock ≠ some b := fun he => by have := (HOWN.out.lt b he).1; omega
               have hown6 : w6.ownsRow (w4.heap.size + 1) 24 3 v rows.length (kidCells rows) := HOWN.out.kept hg6' (.inr hnb)
               have hsz6 : w4.heap.size < w6.heap.size := Nat.lt_of_lt_of_le hltw hg6'.size
               unfold derivV)
            | (refine step_append_lies _ (by rfl) _ _ _ (by rfl) (w4.heap.size + 1) 24 i0 _ 3 40 Tryd.underlying22 hi hi0 hi1 hi2 rfl (by omega) v rows.length (kidCells rows) (by rfl) (hown6.alloc _)
                ⟨w6.heap.size, 0, none⟩ 1 1 [.int .i64 d.rule, .int .i64 d.idx, .slice a1 d.kids.length c1] (by rfl) (by simp) (World.news_of_block (cs := #[.int .i64 d.rule, .int .i64 d.idx, .slice a1 d.kids.length c1]) (t := 24) (fr := (0, 0)) (heap_alloc_new w6 _)) (by simp [Value.oneCell'])
                (by omega) (by unfold maxLen; omega) (by omega) (by simp; omega) (w6.heap.size + 1) (by simp) ?_
               intro g cap w7 hown7 hgrow7 hat7 hlt7
               have hbx7 : w7.heap[w4.heap.size]? = some (.cells #[.int .i64 rr, .int .i64 0, v] 24 (0, 0)) := by
                 rw [hgrow7.block _ (by simp; omega) (fun he => by have := (HOWN.out.lt _ he.symm).1; omega), Lib.alloc_old _ _ _ hsz6]; exact hbx6
               have ld2 : w7.cell? ⟨w4.heap.size, 2, none⟩ = some v := by simp [World.cell?, hbx7]
               have lf2 : w7.frozen? ⟨w4.heap.size, 2, none⟩ = false := by simp [World.frozen?, hbx7]))
        all_goals
          have K1 := Lib.hid (KSt.next HR0.out hbw4 hrw4 HK.out hlt hltw HKM.out hmov hrep1 hx1 hx2 hrd6 hg6' hown7 hgrow7 (by simpa using hat7) hbx7)
          clear hrep1 hx1 hx2 hrd6 hg6 hg6' hbx6 kd2 hnb hown6 hown7 hgrow7 hat7 hbx7 ld2 lf2 d2 hi hi0 hi1 hi2
          go_wp2
          go_roundw
          case rel => exact ⟨j + 1, k', n', _, _, by go_num, K1.out⟩
          case measure => simp [intOf]; omega
    · have hjc2 : j = c := by omega
      have HKE : Hid (kidsM F c (k + 2) (n + 1) [] = .ok (rows.map Prod.fst) kk nn) := Lib.hid (by
        rw [HK.out.eq, show c - j = 0 by omega]; rfl)
      have hrep0 : RepS wr (fun x => w4.heap.size < x) (rows.map Prod.fst) v := repS_of_owns HK.out.own (fun g hg => (HK.out.own.lt g hg).1) (fun p hp => ⟨(HK.out.kids p hp).1.kept (Nat.le_refl _) fun x hx _ => ⟨rfl, hx.1⟩, (HK.out.kids p hp).2⟩)
      by_cases h6 : kindAt toks kk = 2
      · have HRES : Hid (closeM toks rr 0 (kidsM F c (k + 2) (n + 1) []) = .ok (.node rr 0 (rows.map Prod.fst)) (kk + 1) nn) := Lib.hid (by
          rw [HKE.out]; simp only [closeM, h6, if_true])
        have H6 := Lib.hid h6
        obtain ⟨hl9, a9, c9, rfl⟩ := hrep0.form
        have HREP := Lib.hid hrep0
        clear hrep0 h6 d2 hl9 hjc2
        go_wp2_with fail
        refine (take_ok b toks lv kk en nn df wf 2 (by decide) _ HK.out.st.rd H6.out).mono ?_
        rintro e w9 ⟨rfl, hrd9, hg9, hz9⟩
        have PS9 := Lib.hid (HK.out.st.next hb hrd9 hg9)
        have hdx9 : w9.heap[w4.heap.size]? = some (.cells #[.int .i64 rr, .int .i64 0, .slice a9 (rows.map Prod.fst).length c9] 24 (0, 0)) := by
          rw [hg9.block _ hltw (by simp; omega)]; exact HK.out.box
        have HREP9 : Hid (RepS w9 (fun x => w.heap.size < x) (rows.map Prod.fst) (.slice a9 (rows.map Prod.fst).length c9)) := Lib.hid
          (HREP.out.kept hg9.size fun x hx hxl => ⟨hg9.block x hxl (by simp; omega), by omega⟩)
        have d0 : w9.cell? ⟨w4.heap.size, 0, none⟩ = some (.int .i64 rr) := by simp [World.cell?, hdx9]
        have d1 : w9.cell? ⟨w4.heap.size, 1, none⟩ = some (.int .i64 0) := by simp [World.cell?, hdx9]
        have d2 : w9.cell? ⟨w4.heap.size, 2, none⟩ = some (.slice a9 (rows.map Prod.fst).length c9) := by simp [World.cell?, hdx9]
        have r0 : w9.cell? ⟨w.heap.size, 0, none⟩ = some (.int .i64 0) := by simp [World.cell?, PS9.out.res]
        have r1 : w9.cell? ⟨w.heap.size, 1, none⟩ = some (.int .i64 0) := by simp [World.cell?, PS9.out.res]
        have r2 : w9.cell? ⟨w.heap.size, 2, none⟩ = some (.slice none 0 0) := by simp [World.cell?, PS9.out.res]
        have g0 : w9.frozen? ⟨w.heap.size, 0, none⟩ = false := by simp [World.frozen?, PS9.out.res]
        have g1 : w9.frozen? ⟨w.heap.size, 1, none⟩ = false := by simp [World.frozen?, PS9.out.res]
        have g2 : w9.frozen? ⟨w.heap.size, 2, none⟩ = false := by simp [World.frozen?, PS9.out.res]
        have hlt9 := (Array.getElem?_eq_some_iff.1 PS9.out.res).1
        clear hrd9 hg9 hz9 hdx9
        generalize (rows.map Prod.fst) = ks9 at *
        go_wp2
        obtain ⟨W, hW, hWc, hrep, hrdW, hgW⟩ := ok_end HR0.out PS9.out rr 0 (.slice a9 ks9.length c9) ks9 HREP9.out
        rw [hW]
        have e0 : W.cell? ⟨w.heap.size, 0, none⟩ = some (.int .i64 rr) := by simp [World.cell?, hWc]
        have e1 : W.cell? ⟨w.heap.size, 1, none⟩ = some (.int .i64 0) := by simp [World.cell?, hWc]
        have e2 : W.cell? ⟨w.heap.size, 2, none⟩ = some (.slice a9 ks9.length c9) := by simp [World.cell?, hWc]
        have HPOST : Hid (ResPost w b toks lv en df wf (closeM toks rr 0 (kidsM F c (k + 2) (n + 1) [])) (.returned (derivV rr 0 (.slice a9 ks9.length c9))) W) := Lib.hid (by
          rw [HRES.out]
          exact ⟨.slice a9 ks9.length c9, rfl, hrep, HI.out, (show In64 (0 : Int) from ⟨by omega, by omega⟩), hrdW, hgW⟩)
        clear hW hWc hrep hrdW hgW
        exact bodyPost_ret (v := .agg #[.int .i64 rr, .int .i64 0, .slice a9 ks9.length c9]) (by simp [results, Tryd.results63, go_sem, e0, e1, e2]) rfl HPOST.out
      · have HRES : Hid (closeM toks rr 0 (kidsM F c (k + 2) (n + 1) []) = .bad kk .parse) := Lib.hid (by
          rw [HKE.out]; simp only [closeM, h6, if_false])
        have H6 := Lib.hid h6
        clear hrep0 h6 d2 hjc2
        go_wp2_with fail
        refine (take_bad b toks lv kk en nn df wf 2 (by decide) _ HK.out.st.rd H6.out).mono ?_
        rintro e w9 ⟨rfl, m, rfl⟩
        go_wp2
        refine ⟨rfl, ?_⟩
        rw [HRES.out]
        exact ⟨rfl, grown_drewN HK.out.st.gr m⟩
end

theorem deriv_any (b : Nat) (toks : List Tok) (lv : Value) (en : Int) (df wf : Nat) (w0 : World) (ht : Tab w0) (hw0 : w0.heap.size ≤ b) (hl : toks.length ≤ 1099511627776) (htx : ∀ j, (textAt toks j).length ≤ 1099511627776) :
    ∀ fuel, DerivC b toks lv en df wf w0 fuel
  | 0 => fun k n deep w _ _ hf hk _ _ => absurd hf (by omega)
  | fuel + 1 => fun k n deep w h hB hf hk hn hdk => by
    have ih := deriv_any b toks lv en df wf w0 ht hw0 hl htx fuel
    unfold derivM
    dsimp only
    by_cases h1 : kindAt toks k ≠ 1
    · rw [if_pos h1]; exact deriv_bad1 b toks lv k en n df wf deep w h h1
    rw [if_neg h1]
    have h1' : kindAt toks k = 1 := by omega
    by_cases h2 : withinB deep df = false
    · rw [if_pos h2]; exact deriv_bad2 b toks lv k en n df wf deep w h h1' h2
    rw [if_neg h2]
    have h2 : withinB deep df = true := by simpa using h2
    by_cases h3 : withinB ((n + 1 : Nat) : Int) wf = false
    · rw [if_pos h3]; exact deriv_bad3 b toks lv k en n df wf deep w h h1' h2 h3 (by omega)
    rw [if_neg h3]
    have h3 : withinB ((n : Int) + 1) wf = true := by simpa using h3
    by_cases h4 : kindAt toks (k + 1) ≠ 3 ∨ ruleI (textAt toks (k + 1)) = 0
    · rw [if_pos h4]; exact deriv_bad4 b toks lv k en n df wf deep w h h1' h2 h3 (by omega) hl h4
    rw [if_neg h4]
    have h4' : kindAt toks (k + 1) = 3 := by omega
    have hr0 : ruleI (textAt toks (k + 1)) ≠ 0 := fun h => h4 (.inr h)
    have hr28 := ruleI_le (textAt toks (k + 1))
    by_cases h5 : ruleI (textAt toks (k + 1)) = 1 ∨ ruleI (textAt toks (k + 1)) = 2
    · rw [if_pos h5]
      obtain ⟨q1, q2, q3⟩ := deriv_num b toks lv k en n df wf deep w w0 h ht hw0 hB h1' h2 h3 (by omega) hl htx h4' _ rfl h5
      by_cases h6 : kindAt toks (k + 2) ≠ 4
      · rw [if_pos h6]; exact q1 h6
      rw [if_neg h6]
      by_cases h7 : kindAt toks (k + 3) = 2
      · simp only [closeM, h7, if_true]; exact q3 (by omega) h7
      · simp only [closeM, h7, if_false]; exact q2 (by omega) h7
    · rw [if_neg h5]
      have hk := kidsN_eq _ hr0 hr28
      have hk4 : (kidsI (ruleI (textAt toks (k + 1)))).toNat ≤ 4 := by
        have : ∀ r : Nat, r ≤ 28 → (kidsI r).toNat ≤ 4 := by decide
        exact this _ hr28
      exact deriv_kids b toks lv k en n df wf deep w w0 fuel ih h hw0 hB h1' h2 h3 hn hdk hf hl h4' _ _ rfl hk.symm hk4 hr28 ⟨hr0, fun h => h5 (.inl h), fun h => h5 (.inr h)⟩
end Go.Proofs.YtfpiogaakblpeaaDoor
