/- Walk of the parser's file. Walk of the parser's file: the context, the derivation. -/
import Derived.Test.YtfpiogaakblpeaaDoorParV
import Derived.Test.YtfpiogaakblpeaaDoorGreat
namespace Go.Proofs.YtfpiogaakblpeaaDoor
open Go.RowKit

def zeroFile : Array Value := #[.slice none 0 0, .int .i64 0, .int .i64 0, .slice none 0 0]
structure FSt (w : World) (b : Nat) (toks : List Tok) (lv : Value) (k en n : Int) (df wf : Nat) (cv : Value) (wi : World) : Prop where
  rd : Rd wi b toks lv k en n df wf
  gr : w.grownBy wi (some b)
  res : wi.heap[w.heap.size]? = some (.cells zeroFile 26 (0, 0))
  box : wi.heap[w.heap.size + 1]? = some (.cells #[cv, .int .i64 0, .int .i64 0, .slice none 0 0] 26 (0, 0))

section
variable {w wi wj : World} {b : Nat} {toks : List Tok} {lv cv : Value} {k en n k' n' : Int} {df wf : Nat}
theorem FSt.start (h : Rd w b toks lv k en n df wf) : FSt w b toks lv k en n df wf (.slice none 0 0) ((w.alloc (.cells zeroFile 26)).alloc (.cells zeroFile 26)) := by
  have hb : Below w.heap.size w ((w.alloc (.cells zeroFile 26)).alloc (.cells zeroFile 26)) := (below_alloc _ _).trans ((below_alloc _ _).mono (by simp))
  refine ⟨h.kept hb, grown_below hb, (Lib.alloc_old _ _ _ (by simp)).trans (new_heap _ _ _), ?_⟩
  have := new_heap (w.alloc (.cells zeroFile 26)) zeroFile 26
  rw [show (w.alloc (.cells zeroFile 26)).heap.size = w.heap.size + 1 by simp] at this
  exact this
theorem FSt.next (h : FSt w b toks lv k en n df wf cv wi) (hb : b < w.heap.size) (rd : Rd wj b toks lv k' en n' df wf) (g : wi.grownBy wj (some b)) : FSt w b toks lv k' en n' df wf cv wj :=
  ⟨rd, grown_trans h.gr g, by rw [g.block _ (Array.getElem?_eq_some_iff.1 h.res).1 (by simp; omega)]; exact h.res, by rw [g.block _ (Array.getElem?_eq_some_iff.1 h.box).1 (by simp; omega)]; exact h.box⟩
theorem FSt.drewN (h : FSt w b toks lv k en n df wf cv wi) (m : Nat) : FSt w b toks lv k en n df wf cv (wi.drewN m) :=
  ⟨h.rd.drewN m, grown_drewN h.gr m, h.res, h.box⟩
end

/-- behind some derivations of the context -/
structure CSt (w : World) (b : Nat) (toks : List Tok) (lv : Value) (en : Int) (df wf : Nat) (F : Nat → Nat → Res DT) (kk nn : Nat) (rows : List (DT × Value)) (v : Value) (wr : World) : Prop where
  eq : ctxM F toks (toks.length + 1) 3 0 [] = ctxM F toks (toks.length + 1 - rows.length) kk nn (rows.map Prod.fst)
  st : FSt w b toks lv kk en nn df wf v wr
  own : wr.ownsRow (w.heap.size + 2) 24 3 v rows.length (kidCells rows)
  kids : ∀ p ∈ rows, RepS wr (fun x => w.heap.size + 1 < x ∧ some x ≠ v.ownBlock) p.1.kids p.2 ∧ In64 p.1.rule ∧ In64 p.1.idx
  k1 : rows.length + 3 ≤ kk
  k2 : kk ≤ toks.length
  n1 : nn ≤ kk

theorem CSt.next {w wr w6 w7 : World} {b : Nat} {toks : List Tok} {lv : Value} {en k0 n0 : Int} {df wf : Nat} {F : Nat → Nat → Res DT} {kk nn k' n' : Nat} {rows : List (DT × Value)} {v v1 : Value} {d : DT} {g cap : Nat} {o : Obj}
    (h0 : Rd w b toks lv k0 en n0 df wf) (hK : CSt w b toks lv en df wf F kk nn rows v wr)
    (hkm : ctxM F toks (toks.length + 1) 3 0 [] = ctxM F toks (toks.length + 1 - (rows.length + 1)) k' n' (rows.map Prod.fst ++ [d])) (hmov : kk < k' ∧ k' ≤ toks.length ∧ n' ≤ nn + (k' - kk) ∧ nn ≤ n')
    (hrep1 : RepS w6 (fun x => (wr.drewN 1).heap.size ≤ x) d.kids v1) (hx1 : In64 d.rule) (hx2 : In64 d.idx) (hrd6 : Rd w6 b toks lv k' en n' df wf) (hg6 : wr.grownBy w6 (some b))
    (hown7 : w7.ownsRow (w.heap.size + 2) 24 3 (.slice (some ⟨g, 0, none⟩) (rows.length + 1) cap) (rows.length + 1) (kidCells rows ++ [.int .i64 d.rule, .int .i64 d.idx, v1])) (hgrow7 : (w6.alloc o).grownBy w7 v.ownBlock)
    (hat7 : v.ownBlock = some g ∨ g = w6.heap.size + 1) (hbx7 : w7.heap[w.heap.size + 1]? = some (.cells #[v, .int .i64 0, .int .i64 0, .slice none 0 0] 26 (0, 0))) :
    CSt w b toks lv en df wf F k' n' (rows ++ [(d, v1)]) (.slice (some ⟨g, 0, none⟩) (rows.length + 1) cap) (w7.setCell ⟨w.heap.size + 1, 0, none⟩ (.slice (some ⟨g, 0, none⟩) (rows.length + 1) cap)) := by
  have hb := h0.lt
  have hltw := (Array.getElem?_eq_some_iff.1 hK.st.box).1
  have hvlt : ∀ x, v.ownBlock = some x → w.heap.size + 2 ≤ x ∧ x < wr.heap.size := fun x hx => hK.own.lt x hx
  have hs6 := hg6.size
  have hs7 : w6.heap.size + 1 ≤ w7.heap.size := by have := hgrow7.size; simpa using this
  have hgge : w.heap.size + 2 ≤ g := (hown7.lt g rfl).1
  have hBx : ∀ x, x < w6.heap.size → x ≠ w.heap.size + 1 → some x ≠ v.ownBlock → (w7.setCell ⟨w.heap.size + 1, 0, none⟩ (.slice (some ⟨g, 0, none⟩) (rows.length + 1) cap)).heap[x]? = w6.heap[x]? := fun x h1 h2 h3 => by
    rw [Below.heap_setCell _ _ _ _ h2, hgrow7.block x (by simp; omega) h3, Lib.alloc_old _ _ _ h1]
  have hAx : ∀ x, x < wr.heap.size → x ≠ b → x ≠ w.heap.size + 1 → some x ≠ v.ownBlock → (w7.setCell ⟨w.heap.size + 1, 0, none⟩ (.slice (some ⟨g, 0, none⟩) (rows.length + 1) cap)).heap[x]? = wr.heap[x]? := fun x h1 h2 h3 h4 => by
    rw [hBx x (by omega) h3 h4, hg6.block x h1 (by simpa using h2)]
  have hsz8 : (w7.setCell ⟨w.heap.size + 1, 0, none⟩ (.slice (some ⟨g, 0, none⟩) (rows.length + 1) cap)).heap.size = w7.heap.size := by simp [World.setCell]
  have hg : w.grownBy (w7.setCell ⟨w.heap.size + 1, 0, none⟩ (.slice (some ⟨g, 0, none⟩) (rows.length + 1) cap)) (some b) := by
    refine ⟨?_, ?_, ?_, ?_, fun x h1 h2 => ?_⟩
    · exact (hgrow7.os.trans hg6.os).trans hK.st.gr.os
    · exact (hgrow7.tape.trans hg6.tape).trans hK.st.gr.tape
    · exact (hgrow7.output.trans hg6.output).trans hK.st.gr.output
    · rw [hsz8]; have := hK.st.gr.size; omega
    · rw [hAx x (by omega) (by simpa using h2) (by omega) (fun he => by have := hvlt x he.symm; omega)]
      exact hK.st.gr.block x h1 h2
  refine { eq := by rw [hkm]; simp, st := ⟨⟨?_, h0.has.grown hg h0.far, h0.far⟩, hg, ?_, ?_⟩, own := ?_, kids := ?_, k1 := by have := hK.k1; simp; omega, k2 := hmov.2.1, n1 := by have := hK.n1; omega }
  · rw [hBx b (by omega) (by omega) (fun he => by have := hvlt b he.symm; omega)]
    exact hrd6.cells
  · rw [hAx _ (by omega) (by omega) (by omega) (fun he => by have := hvlt _ he.symm; omega)]
    exact hK.st.res
  · simp [World.setCell, Array.getElem?_modify, hbx7]
  · have h1 := hown7.kept (grown_set (grown_refl w7 (some (w.heap.size + 1))) 0 (.slice (some ⟨g, 0, none⟩) (rows.length + 1) cap)) (.inr (by simp [Value.ownBlock]; omega))
    simpa [kidCells_append, kidCells] using h1
  · intro p hp
    rcases List.mem_append.1 hp with hp | hp
    · obtain ⟨h1, h2⟩ := hK.kids p hp
      refine ⟨h1.kept (by rw [hsz8]; omega) fun x hx hxl => ⟨hAx x hxl (by omega) (by omega) hx.2, hx.1, ?_⟩, h2⟩
      simp only [Value.ownBlock]
      rcases hat7 with h | h
      · rw [← h]; exact hx.2
      · simp; omega
    · obtain rfl : p = (d, v1) := by simpa using hp
      have hds : (wr.drewN 1).heap.size = wr.heap.size := rfl
      rw [hds] at hrep1
      refine ⟨hrep1.kept (by rw [hsz8]; omega) fun x hx hxl => ⟨hBx x hxl (by omega) (fun he => by have := hvlt x he.symm; omega), by omega, ?_⟩, hx1, hx2⟩
      simp only [Value.ownBlock]
      rcases hat7 with h | h
      · have := hvlt g h; simp; omega
      · simp; omega

def OkFile (w : World) (b : Nat) (toks : List Tok) (lv : Value) (en : Int) (df wf : Nat) (cs : List DT) (d : DT) (k' n' : Nat) (e : Ending) (w' : World) : Prop :=
  ∃ cv v, e = .returned (fileV cv d.rule d.idx v) ∧ RepS w' (fun x => w.heap.size ≤ x) cs cv ∧ RepS w' (fun x => w.heap.size ≤ x) d.kids v ∧ In64 d.rule ∧ In64 d.idx ∧ Rd w' b toks lv k' en n' df wf ∧ w.grownBy w' (some b)
def ResFile (w : World) (b : Nat) (toks : List Tok) (lv : Value) (en : Int) (df wf : Nat) : Res (List DT × DT) → Ending → World → Prop
  | .ok x k' n' => OkFile w b toks lv en df wf x.1 x.2 k' n'
  | .bad k' y => BadPost w b toks en k' y

section
variable (b : Nat) (toks : List Tok) (lv : Value) (en : Int) (df wf : Nat) (w w0 : World)

set_option maxHeartbeats 1600000 in
set_option maxRecDepth 100000 in
theorem file_head (h : Rd w b toks lv ((0 : Nat) : Int) en ((0 : Nat) : Int) df wf) :
    (kindAt toks 0 ≠ 1 → Calls Tryd.prog 41 #[.pointer (some ⟨b, 0, none⟩)] w (BadPost w b toks en 0 .parse)) ∧
    (kindAt toks 0 = 1 → kindAt toks 1 ≠ 3 ∨ textAt toks 1 ≠ wordFile → Calls Tryd.prog 41 #[.pointer (some ⟨b, 0, none⟩)] w (BadPost w b toks en 1 .parse)) ∧
    (kindAt toks 0 = 1 → kindAt toks 1 = 3 → textAt toks 1 = wordFile → kindAt toks 2 ≠ 1 → Calls Tryd.prog 41 #[.pointer (some ⟨b, 0, none⟩)] w (BadPost w b toks en 2 .parse)) := by
  have FS0 := Lib.hid (FSt.start h)
  have hb := h.lt
  obtain ⟨c0, c1, c2, c3, c4, c5⟩ := FS0.out.rd.at
  clear h
  unfold zeroFile at FS0
  refine ⟨fun h1 => ?_, fun h1 h2 => ?_, fun h1 h2 h3 h4 => ?_⟩
  · have H1 := Lib.hid h1
    clear h1
    go_enter Tryd.func41, Tryd.ntmps41
    go_wp2_with fail
    refine (take_bad b toks lv 0 en _ df wf 1 (by decide) _ FS0.out.rd H1.out).mono ?_
    rintro e w1 ⟨rfl, m, rfl⟩
    go_wp2
    exact ⟨rfl, rfl, grown_drewN FS0.out.gr m⟩
  · have H1 := Lib.hid h1
    clear h1
    go_enter Tryd.func41, Tryd.ntmps41
    go_wp2_with fail
    refine (take_ok b toks lv 0 en _ df wf 1 (by decide) _ FS0.out.rd H1.out).mono ?_
    rintro e w1 ⟨rfl, hrd1, hg1, hz1⟩
    have FS1 := Lib.hid (FS0.out.next hb hrd1 hg1)
    clear hrd1 hg1 hz1 c0 c1 c2 c3 c4 c5
    by_cases h5 : kindAt toks 1 = 3
    · have H5 := Lib.hid h5
      have h6 : textAt toks 1 ≠ wordFile := h2.resolve_left (by omega)
      have hne : (textAt toks 1 == [102, 105, 108, 101]) = false := by simpa [wordFile] using h6
      have hne2 : (textAt toks 1 != [102, 105, 108, 101]) = true := by simpa [wordFile] using h6
      clear h2 h5 h6
      go_wp2_with fail
      refine (take_ok b toks lv 1 en _ df wf 3 (by decide) _ FS1.out.rd H5.out).mono ?_
      rintro e w2 ⟨rfl, hrd2, hg2, hz2⟩
      have FS2 := Lib.hid (FS1.out.next hb hrd2 hg2)
      clear hrd2 hg2 hz2
      obtain ⟨c0, c1, c2, c3, c4, c5⟩ := FS2.out.rd.at
      go_wp2_with fail
      refine (stop_any b toks lv 1 _ en _ df wf 2 _ _ FS2.out.rd).mono ?_
      rintro e w6 ⟨rfl, m2, rfl⟩
      go_wp2
      exact ⟨rfl, rfl, grown_drewN FS2.out.gr _⟩
    · have H5 := Lib.hid h5
      clear h2 h5
      go_wp2_with fail
      refine (take_bad b toks lv 1 en _ df wf 3 (by decide) _ FS1.out.rd H5.out).mono ?_
      rintro e w2 ⟨rfl, m, rfl⟩
      go_wp2
      exact ⟨rfl, rfl, grown_drewN FS1.out.gr m⟩
  · have H1 := Lib.hid h1
    have H2 := Lib.hid h2
    have H4 := Lib.hid h4
    have hne : (textAt toks 1 == [102, 105, 108, 101]) = true := by simpa [wordFile] using h3
    have hne2 : (textAt toks 1 != [102, 105, 108, 101]) = false := by simpa [wordFile] using h3
    clear h1 h2 h3 h4
    go_enter Tryd.func41, Tryd.ntmps41
    go_wp2_with fail
    refine (take_ok b toks lv 0 en _ df wf 1 (by decide) _ FS0.out.rd H1.out).mono ?_
    rintro e w1 ⟨rfl, hrd1, hg1, hz1⟩
    have FS1 := Lib.hid (FS0.out.next hb hrd1 hg1)
    clear hrd1 hg1 hz1 c0 c1 c2 c3 c4 c5
    go_wp2_with fail
    refine (take_ok b toks lv 1 en _ df wf 3 (by decide) _ FS1.out.rd H2.out).mono ?_
    rintro e w2 ⟨rfl, hrd2, hg2, hz2⟩
    have FS2 := Lib.hid (FS1.out.next hb hrd2 hg2)
    clear hrd2 hg2 hz2
    go_wp2_with fail
    refine (take_bad b toks lv 2 en _ df wf 1 (by decide) _ FS2.out.rd H4.out).mono ?_
    rintro e w3 ⟨rfl, m, rfl⟩
    go_wp2
    exact ⟨rfl, rfl, grown_drewN FS2.out.gr m⟩
end
end Go.Proofs.YtfpiogaakblpeaaDoor

namespace Go.Proofs.YtfpiogaakblpeaaDoor
open Go.RowKit

theorem ok_file {w w9 : World} {b : Nat} {toks : List Tok} {lv : Value} {k0 n0 k en n : Int} {df wf : Nat} {cv : Value} {r i : Int} {v : Value} {cs ks : List DT} (h0 : Rd w b toks lv k0 en n0 df wf) (rd : Rd w9 b toks lv k en n df wf) (gr : w.grownBy w9 (some b))
    (res : w9.heap[w.heap.size]? = some (.cells zeroFile 26 (0, 0))) (hc : RepS w9 (fun x => w.heap.size < x) cs cv) (hk : RepS w9 (fun x => w.heap.size < x) ks v) :
    ∃ W, (((w9.setCell ⟨w.heap.size, 0, none⟩ cv).setCell ⟨w.heap.size, 1, none⟩ (.int .i64 r)).setCell ⟨w.heap.size, 2, none⟩ (.int .i64 i)).setCell ⟨w.heap.size, 3, none⟩ v = W ∧
      W.heap[w.heap.size]? = some (.cells #[cv, .int .i64 r, .int .i64 i, v] 26 (0, 0)) ∧ RepS W (fun x => w.heap.size ≤ x) cs cv ∧ RepS W (fun x => w.heap.size ≤ x) ks v ∧ Rd W b toks lv k en n df wf ∧ w.grownBy W (some b) := by
  refine ⟨_, rfl, ?_, ?_⟩
  · simp [World.setCell, Array.getElem?_modify, res, zeroFile]
  generalize hW : (((w9.setCell ⟨w.heap.size, 0, none⟩ cv).setCell ⟨w.heap.size, 1, none⟩ (.int .i64 r)).setCell ⟨w.heap.size, 2, none⟩ (.int .i64 i)).setCell ⟨w.heap.size, 3, none⟩ v = W
  have hx : ∀ x, x ≠ w.heap.size → W.heap[x]? = w9.heap[x]? := fun x hx => by
    rw [← hW, Below.heap_setCell _ _ _ _ hx, Below.heap_setCell _ _ _ _ hx, Below.heap_setCell _ _ _ _ hx, Below.heap_setCell _ _ _ _ hx]
  have hz : W.heap.size = w9.heap.size := by rw [← hW]; simp [World.setCell]
  have hg : w.grownBy W (some b) := ⟨by rw [← hW]; exact gr.os, by rw [← hW]; exact gr.tape, by rw [← hW]; exact gr.output, by rw [hz]; exact gr.size, fun x hlt hne => by rw [hx x (by omega)]; exact gr.block x hlt hne⟩
  have hS : ∀ {l u}, RepS w9 (fun x => w.heap.size < x) l u → RepS W (fun x => w.heap.size ≤ x) l u := fun h => h.kept (by omega) fun x hS _ => ⟨hx x (by omega), by omega⟩
  exact ⟨hS hc, hS hk, ⟨by rw [hx b (by have := h0.lt; omega)]; exact rd.cells, h0.has.grown hg h0.far, h0.far⟩, hg⟩

theorem CSt.drewN {w wr : World} {b : Nat} {toks : List Tok} {lv : Value} {en : Int} {df wf : Nat} {F : Nat → Nat → Res DT} {kk nn : Nat} {rows : List (DT × Value)} {v : Value} (h : CSt w b toks lv en df wf F kk nn rows v wr) (m : Nat) : CSt w b toks lv en df wf F kk nn rows v (wr.drewN m) :=
  { eq := h.eq, st := h.st.drewN m, own := h.own, kids := fun p hp => ⟨RepS.kept (w := wr) (w' := wr.drewN m) (Nat.le_refl _) (fun _ hx _ => ⟨rfl, hx⟩) (h.kids p hp).1, (h.kids p hp).2⟩, k1 := h.k1, k2 := h.k2, n1 := h.n1 }

section
variable (b : Nat) (toks : List Tok) (lv : Value) (en : Int) (df wf : Nat) (w w0 : World)

set_option maxHeartbeats 4000000 in
set_option maxRecDepth 100000 in
theorem file_tail (h : Rd w b toks lv ((0 : Nat) : Int) en ((0 : Nat) : Int) df wf) (ht : Tab w0) (hw0 : w0.heap.size ≤ b) (hB : Below w0.heap.size w0 w) (hl : toks.length ≤ 1099511627776) (htx : ∀ j, (textAt toks j).length ≤ 1099511627776)
    (h1 : kindAt toks 0 = 1) (h2 : kindAt toks 1 = 3) (h3 : textAt toks 1 = wordFile) (h4 : kindAt toks 2 = 1) :
    Calls Tryd.prog 41 #[.pointer (some ⟨b, 0, none⟩)] w
      (ResFile w b toks lv en df wf (restM (derivM ⟨toks, fun m => withinB m df, fun m => withinB m wf⟩ (toks.length + 1) 1) toks (ctxM (derivM ⟨toks, fun m => withinB m df, fun m => withinB m wf⟩ (toks.length + 1) 1) toks (toks.length + 1) 3 0 []))) := by
  obtain ⟨la, lc, rfl⟩ := h.has.slice
  generalize hlv : Value.slice la toks.length lc = lv at h ⊢
  have HLV := Lib.hid hlv
  clear hlv
  have FS0 := Lib.hid (FSt.start h)
  have HR0 := Lib.hid h
  have hb := h.lt
  have HB := Lib.hid hB
  have H1 := Lib.hid h1
  have H2 := Lib.hid h2
  have H4 := Lib.hid h4
  have hk2 := kindAt_lt (l := toks) (k := 2) (by omega)
  have hne : (textAt toks 1 == [102, 105, 108, 101]) = true := by simpa [wordFile] using h3
  have hne2 : (textAt toks 1 != [102, 105, 108, 101]) = false := by simpa [wordFile] using h3
  obtain ⟨i0, hi, hi0, hi1, hi2⟩ := info_parts Tryd.infoDeriv
  have HINF := Lib.hid (And.intro hi (And.intro hi0 (And.intro hi1 hi2)))
  have HMOV : Hid (∀ k n, k ≤ toks.length → Moves toks k n (derivM ⟨toks, fun m => withinB m df, fun m => withinB m wf⟩ (toks.length + 1) 1 k n)) := Lib.hid (fun k n hk => derivM_moves ⟨toks, fun m => withinB m df, fun m => withinB m wf⟩ (toks.length + 1) 1 k n hk)
  have ihd := deriv_any b toks lv en df wf w0 ht hw0 hl htx (toks.length + 1)
  have IH : Hid (∀ (k n : Nat) (w : World), Rd w b toks lv k en n df wf → Below w0.heap.size w0 w → k ≤ toks.length → n ≤ k →
    Calls Tryd.prog 63 #[.pointer (some ⟨b, 0, none⟩), .int .i64 1] w
      (ResPost w b toks lv en df wf (derivM ⟨toks, fun m => withinB m df, fun m => withinB m wf⟩ (toks.length + 1) 1 k n))) := Lib.hid (fun k n w a1 a2 a3 a4 => by
        have := ihd k n 1 w a1 a2 (by omega) a3 a4 (by omega)
        exact this)
  obtain ⟨c0, c1, c2, c3, c4, c5⟩ := FS0.out.rd.at
  clear h h1 h2 h3 h4 hB ht htx ihd hi hi0 hi1 hi2
  generalize derivM ⟨toks, fun m => withinB m df, fun m => withinB m wf⟩ (toks.length + 1) 1 = F at HMOV IH
  have FS0' := FS0
  unfold zeroFile at FS0
  go_enter Tryd.func41, Tryd.ntmps41
  go_wp2_with fail
  refine (take_ok b toks lv 0 en _ df wf 1 (by decide) _ FS0.out.rd H1.out).mono ?_
  rintro e w1 ⟨rfl, hrd1, hg1, hz1⟩
  have FS1 := Lib.hid (FS0'.out.next hb hrd1 hg1)
  clear hrd1 hg1 hz1 c0 c1 c2 c3 c4 c5 FS0
  go_wp2_with fail
  refine (take_ok b toks lv 1 en _ df wf 3 (by decide) _ FS1.out.rd H2.out).mono ?_
  rintro e w2 ⟨rfl, hrd2, hg2, hz2⟩
  have FS2 := Lib.hid (FS1.out.next hb hrd2 hg2)
  clear hrd2 hg2 hz2
  go_wp2_with fail
  refine (take_ok b toks lv 2 en _ df wf 1 (by decide) _ FS2.out.rd H4.out).mono ?_
  rintro e w3 ⟨rfl, hrd3, hg3, hz3⟩
  have FS3 := Lib.hid (FS2.out.next hb hrd3 hg3)
  clear hrd3 hg3 hz3
  have C0 : Hid (CSt w b toks lv en df wf F 3 0 [] (.slice none 0 0) w3) := Lib.hid
    { eq := rfl, st := by have := FS3.out; simpa using this, own := World.ownsRow_nil _ _ _ _, kids := fun p hp => by simp at hp, k1 := Nat.le_refl _, k2 := by omega, n1 := by omega }
  go_wp2_with fail
  go_loopw [18] (fun _ wr => ∃ (kk nn : Nat) (rows : List (DT × Value)) (v : Value), CSt w b toks lv en df wf F kk nn rows v wr) (fun _ wr => match wr.cell? ⟨b, 1, none⟩ with | some (.int _ q) => toks.length - q.toNat | _ => 0)
  case atStart => exact ⟨_, _, _, _, C0.out⟩
  case round =>
    obtain ⟨kk, nn, rows, v, hC⟩ := hrel
    have hm1 := hC.st.rd.at.2.1
    have HM1 := Lib.hid hm1
    clear hm1
    have hk1' := hC.k1
    have hk2' := hC.k2
    have hn1' := hC.n1
    have HC0 := Lib.hid hC
    clear hC
    go_wp2_with fail
    refine (is_any b toks lv kk en nn df wf 2 (by decide) _ HC0.out.st.rd).mono ?_
    rintro e w4 ⟨rfl, m4, rfl⟩
    have HC := Lib.hid (HC0.out.drewN m4)
    clear HC0
    generalize wr.drewN m4 = w4 at HC
    have HBWR : Hid (Below w0.heap.size w0 w4) := Lib.hid (HB.out.trans (below_of_grown HC.out.st.gr hw0 HB.out.size))
    have hbox := HC.out.st.box
    have d0 : w4.cell? ⟨w.heap.size + 1, 0, none⟩ = some v := by simp [World.cell?, hbox]
    have hltw := (Array.getElem?_eq_some_iff.1 hbox).1
    clear hbox
    by_cases hk6 : kindAt toks kk = 2
    · have hv : (((kindAt toks kk : Nat) : Int) == 2) = true := by simp [hk6]
      rw [hv]
      have HCE : Hid (ctxM F toks (toks.length + 1) 3 0 [] = .ok (rows.map Prod.fst) kk nn) := Lib.hid (by
        rw [HC.out.eq]
        obtain ⟨q, hq⟩ : ∃ q, toks.length + 1 - rows.length = q + 1 := ⟨toks.length - rows.length, by omega⟩
        rw [hq]
        simp only [ctxM, hk6, if_true])
      have H6 := Lib.hid hk6
      have hkl := kindAt_lt (l := toks) (k := kk) (by omega)
      have hrepc : RepS w4 (fun x => w.heap.size + 1 < x) (rows.map Prod.fst) v := repS_of_owns HC.out.own (fun g hg => (HC.out.own.lt g hg).1) (fun p hp => ⟨(HC.out.kids p hp).1.kept (Nat.le_refl _) fun x hx _ => ⟨rfl, hx.1⟩, (HC.out.kids p hp).2⟩)
      obtain ⟨hl9, a9, c9, rfl⟩ := hrepc.form
      have HREPC := Lib.hid hrepc
      clear hrepc hk6 hv d0 hl9
      go_wp2_with fail
      refine (take_ok b toks lv kk en nn df wf 2 (by decide) _ HC.out.st.rd H6.out).mono ?_
      rintro e w5 ⟨rfl, hrd5, hg5, hz5⟩
      have FS5 := Lib.hid (HC.out.st.next hb hrd5 hg5)
      have HREP5 : Hid (RepS w5 (fun x => w.heap.size + 1 < x) (rows.map Prod.fst) (.slice a9 (rows.map Prod.fst).length c9)) := Lib.hid
          (HREPC.out.kept hg5.size fun x hx hxl => ⟨hg5.block x hxl (by simp; omega), hx⟩)
      have HB5 : Hid (Below w0.heap.size w0 w5) := Lib.hid (HB.out.trans (below_of_grown FS5.out.gr hw0 HB.out.size))
      have hlt5 := (Array.getElem?_eq_some_iff.1 FS5.out.box).1
      clear hrd5 hg5 hz5
      go_wp2_with fail
      have hcall := IH.out (kk + 1) nn w5 FS5.out.rd HB5.out (by omega) (by omega)
      have hmv := HMOV.out (kk + 1) nn (by omega)
      cases hq : F (kk + 1) nn with
      | bad k' y =>
        have HRES : Hid (restM F toks (ctxM F toks (toks.length + 1) 3 0 []) = .bad k' y) := Lib.hid (by rw [HCE.out]; simp only [restM, hq])
        rw [hq] at hcall
        clear hq hmv
        refine hcall.mono ?_
        rintro e w6 ⟨rfl, hg6⟩
        clear hcall
        go_wp2
        refine ⟨rfl, ?_⟩
        rw [HRES.out]
        exact ⟨rfl, grown_trans FS5.out.gr hg6⟩
      | ok d k' n' =>
        rw [hq] at hcall hmv
        simp only [Moves] at hmv
        have HRES : Hid (restM F toks (ctxM F toks (toks.length + 1) 3 0 []) = if kindAt toks k' = 2 then (if k' + 1 < toks.length then .bad (k' + 1) .parse else .ok (rows.map Prod.fst, d) (k' + 1) n') else .bad k' .parse) := Lib.hid (by rw [HCE.out]; simp only [restM, hq])
        clear hq
        refine hcall.mono ?_
        rintro e w6 ⟨v1, rfl, hrep1, hx1, hx2, hrd6, hg6⟩
        clear hcall
        obtain ⟨hl1, a1, c1, rfl⟩ := hrep1.form
        have hbx6 : w6.heap[w.heap.size + 1]? = some (.cells #[.slice a9 (rows.map Prod.fst).length c9, .int .i64 0, .int .i64 0, .slice none 0 0] 26 (0, 0)) := by
          rw [hg6.block _ hlt5 (by simp; omega)]; exact FS5.out.box
        have b1 : w6.cell? ⟨w.heap.size + 1, 1, none⟩ = some (.int .i64 0) := by simp [World.cell?, hbx6]
        have b2 : w6.cell? ⟨w.heap.size + 1, 2, none⟩ = some (.int .i64 0) := by simp [World.cell?, hbx6]
        have b3 : w6.cell? ⟨w.heap.size + 1, 3, none⟩ = some (.slice none 0 0) := by simp [World.cell?, hbx6]
        have z1 : w6.frozen? ⟨w.heap.size + 1, 1, none⟩ = false := by simp [World.frozen?, hbx6]
        have z2 : w6.frozen? ⟨w.heap.size + 1, 2, none⟩ = false := by simp [World.frozen?, hbx6]
        have z3 : w6.frozen? ⟨w.heap.size + 1, 3, none⟩ = false := by simp [World.frozen?, hbx6]
        have hlt6 := (Array.getElem?_eq_some_iff.1 hbx6).1
        obtain ⟨W7, hW7, hx7, hz7, hbx7⟩ : ∃ W7, ((w6.setCell ⟨w.heap.size + 1, 1, none⟩ (.int .i64 d.rule)).setCell ⟨w.heap.size + 1, 2, none⟩ (.int .i64 d.idx)).setCell ⟨w.heap.size + 1, 3, none⟩ (.slice a1 d.kids.length c1) = W7 ∧ (∀ x, x ≠ w.heap.size + 1 → W7.heap[x]? = w6.heap[x]?) ∧ W7.heap.size = w6.heap.size ∧
            W7.heap[w.heap.size + 1]? = some (.cells #[.slice a9 (rows.map Prod.fst).length c9, .int .i64 d.rule, .int .i64 d.idx, .slice a1 d.kids.length c1] 26 (0, 0)) := by
          refine ⟨_, rfl, fun x hx => ?_, by simp [World.setCell], by simp [World.setCell, Array.getElem?_modify, hbx6]⟩
          rw [Below.heap_setCell _ _ _ _ hx, Below.heap_setCell _ _ _ _ hx, Below.heap_setCell _ _ _ _ hx]
        have hgw6 : w.grownBy w6 (some b) := grown_trans FS5.out.gr hg6
        have hgw7 : w.grownBy W7 (some b) := ⟨by rw [← hW7]; exact hgw6.os, by rw [← hW7]; exact hgw6.tape, by rw [← hW7]; exact hgw6.output, by rw [hz7]; exact hgw6.size, fun x h1 h2 => by rw [hx7 x (by omega)]; exact hgw6.block x h1 h2⟩
        have RD7 : Hid (Rd W7 b toks lv k' en n' df wf) := Lib.hid ⟨by rw [hx7 b (by omega)]; exact hrd6.cells, HR0.out.has.grown hgw7 HR0.out.far, HR0.out.far⟩
        have GW7 := Lib.hid hgw7
        have RES7 : Hid (W7.heap[w.heap.size]? = some (.cells zeroFile 26 (0, 0))) := Lib.hid (by
          rw [hx7 _ (by omega), hg6.block _ (Array.getElem?_eq_some_iff.1 FS5.out.res).1 (by simp; omega)]; exact FS5.out.res)
        have REPC7 : Hid (RepS W7 (fun x => w.heap.size + 1 < x) (rows.map Prod.fst) (.slice a9 (rows.map Prod.fst).length c9)) := Lib.hid
          (HREP5.out.kept (by rw [hz7]; exact hg6.size) fun x hx hxl => ⟨(hx7 x (by omega)).trans (hg6.block x hxl (by simp; omega)), hx⟩)
        have REPD7 : Hid (RepS W7 (fun x => w.heap.size + 1 < x) d.kids (.slice a1 d.kids.length c1)) := Lib.hid
          (hrep1.kept (by rw [hz7]; omega) fun x hx hxl => ⟨hx7 x (by omega), by omega⟩)
        have BX7 := Lib.hid hbx7
        have HX12 := Lib.hid (And.intro hx1 hx2)
        clear hx7 hz7 hbx7 hgw6 hgw7 hrep1 hx1 hx2 hrd6 hg6 hbx6 hl1
        generalize (rows.map Prod.fst) = cs9 at *
        unfold derivV
        go_wp2_with fail
        clear hW7 b1 b2 b3 z1 z2 z3
        by_cases h7 : kindAt toks k' = 2
        · have H7 := Lib.hid h7
          have HRES2 := HRES.out
          rw [if_pos h7] at HRES2
          have HRES3 := Lib.hid HRES2
          have hkl7 := kindAt_lt (l := toks) (k := k') (by omega)
          clear HRES2 h7
          refine (take_ok b toks lv k' en n' df wf 2 (by decide) _ RD7.out H7.out).mono ?_
          rintro e w8 ⟨rfl, hrd8, hg8, hz8⟩
          have HLV2 := HLV.out
          obtain ⟨c0, c1', c2, c3, c4, c5⟩ := hrd8.at
          rw [← HLV2] at c0
          have RD8 := Lib.hid hrd8
          have GW8 : Hid (w.grownBy w8 (some b)) := Lib.hid (grown_trans GW7.out hg8)
          have RES8 : Hid (w8.heap[w.heap.size]? = some (.cells zeroFile 26 (0, 0))) := Lib.hid (by
            rw [hg8.block _ (Array.getElem?_eq_some_iff.1 RES7.out).1 (by simp; omega)]; exact RES7.out)
          have BX8 : Hid (w8.heap[w.heap.size + 1]? = _) := Lib.hid ((hg8.block _ (Array.getElem?_eq_some_iff.1 BX7.out).1 (by simp; omega)).trans BX7.out)
          have REPC8 : Hid (RepS w8 (fun x => w.heap.size + 1 < x) cs9 (.slice a9 cs9.length c9)) := Lib.hid (REPC7.out.kept hg8.size fun x hx hxl => ⟨hg8.block x hxl (by simp; omega), hx⟩)
          have REPD8 : Hid (RepS w8 (fun x => w.heap.size + 1 < x) d.kids (.slice a1 d.kids.length c1)) := Lib.hid (REPD7.out.kept hg8.size fun x hx hxl => ⟨hg8.block x hxl (by simp; omega), hx⟩)
          clear hrd8 hg8 hz8 HLV2
          by_cases h8 : k' + 1 < toks.length
          · have hd8 : decide ((k' : Int) + 1 < (toks.length : Int)) = true := by simp; omega
            have hd9 : (k' : Int) + 1 < (toks.length : Int) := by omega
            have HR4 := HRES3.out
            rw [if_pos h8] at HR4
            have HRES4 := Lib.hid HR4
            clear HR4 h8
            go_wp2_with fail
            go_quiet (fail)
            have hrd9 := RD8.out.drewN nq
            go_wp2_with fail
            refine (stop_any b toks lv (k' + 1) _ en _ df wf 2 _ _ hrd9).mono ?_
            rintro e w9 ⟨rfl, m2, rfl⟩
            go_wp2
            refine ⟨rfl, ?_⟩
            rw [HRES4.out]
            exact ⟨rfl, grown_drewN GW8.out _⟩
          · have hd8 : decide ((k' : Int) + 1 < (toks.length : Int)) = false := by simp; omega
            have hd9 : ¬ (k' : Int) + 1 < (toks.length : Int) := by omega
            have HR4 := HRES3.out
            rw [if_neg h8] at HR4
            have HRES4 := Lib.hid HR4
            clear HR4 h8
            go_wp2_with fail
            go_quiet (fail)
            have RD9 := Lib.hid (RD8.out.drewN nq)
            have GW9 := Lib.hid (grown_drewN GW8.out nq)
            have REPC9 : Hid (RepS (w8.drewN nq) (fun x => w.heap.size < x) cs9 (.slice a9 cs9.length c9)) := Lib.hid (RepS.kept (w := w8) (w' := w8.drewN nq) (Nat.le_refl _) (fun x hx _ => ⟨rfl, by omega⟩) REPC8.out)
            have REPD9 : Hid (RepS (w8.drewN nq) (fun x => w.heap.size < x) d.kids (.slice a1 d.kids.length c1)) := Lib.hid (RepS.kept (w := w8) (w' := w8.drewN nq) (Nat.le_refl _) (fun x hx _ => ⟨rfl, by omega⟩) REPD8.out)
            have RES9 : Hid ((w8.drewN nq).heap[w.heap.size]? = some (.cells zeroFile 26 (0, 0))) := RES8
            have BX9 : Hid ((w8.drewN nq).heap[w.heap.size + 1]? = some (.cells #[.slice a9 cs9.length c9, .int .i64 d.rule, .int .i64 d.idx, .slice a1 d.kids.length c1] 26 (0, 0))) := BX8
            clear c0 c1' c2 c3 c4 c5 RD8 GW8 REPC8 REPD8 RES8 BX8
            generalize w8.drewN nq = w9 at *
            have hbx9 := BX9.out
            have hres9 := RES9.out
            unfold zeroFile at hres9
            have b0 : w9.cell? ⟨w.heap.size + 1, 0, none⟩ = some (.slice a9 cs9.length c9) := by simp [World.cell?, hbx9]
            have b1 : w9.cell? ⟨w.heap.size + 1, 1, none⟩ = some (.int .i64 d.rule) := by simp [World.cell?, hbx9]
            have b2 : w9.cell? ⟨w.heap.size + 1, 2, none⟩ = some (.int .i64 d.idx) := by simp [World.cell?, hbx9]
            have b3 : w9.cell? ⟨w.heap.size + 1, 3, none⟩ = some (.slice a1 d.kids.length c1) := by simp [World.cell?, hbx9]
            have r0 : w9.cell? ⟨w.heap.size, 0, none⟩ = some (.slice none 0 0) := by simp [World.cell?, hres9]
            have r1 : w9.cell? ⟨w.heap.size, 1, none⟩ = some (.int .i64 0) := by simp [World.cell?, hres9]
            have r2 : w9.cell? ⟨w.heap.size, 2, none⟩ = some (.int .i64 0) := by simp [World.cell?, hres9]
            have r3 : w9.cell? ⟨w.heap.size, 3, none⟩ = some (.slice none 0 0) := by simp [World.cell?, hres9]
            have z0 : w9.frozen? ⟨w.heap.size, 0, none⟩ = false := by simp [World.frozen?, hres9]
            have z1 : w9.frozen? ⟨w.heap.size, 1, none⟩ = false := by simp [World.frozen?, hres9]
            have z2 : w9.frozen? ⟨w.heap.size, 2, none⟩ = false := by simp [World.frozen?, hres9]
            have z3 : w9.frozen? ⟨w.heap.size, 3, none⟩ = false := by simp [World.frozen?, hres9]
            have hlt9 := (Array.getElem?_eq_some_iff.1 hres9).1
            clear hbx9 hres9
            go_wp2
            obtain ⟨W, hW, hWc, hrepc, hrepd, hrdW, hgW⟩ := ok_file (r := d.rule) (i := d.idx) HR0.out RD9.out GW9.out RES9.out REPC9.out REPD9.out
            rw [hW]
            have e0 : W.cell? ⟨w.heap.size, 0, none⟩ = some (.slice a9 cs9.length c9) := by simp [World.cell?, hWc]
            have e1 : W.cell? ⟨w.heap.size, 1, none⟩ = some (.int .i64 d.rule) := by simp [World.cell?, hWc]
            have e2 : W.cell? ⟨w.heap.size, 2, none⟩ = some (.int .i64 d.idx) := by simp [World.cell?, hWc]
            have e3 : W.cell? ⟨w.heap.size, 3, none⟩ = some (.slice a1 d.kids.length c1) := by simp [World.cell?, hWc]
            have HPOST : Hid (ResFile w b toks lv en df wf (restM F toks (ctxM F toks (toks.length + 1) 3 0 [])) (.returned (fileV (.slice a9 cs9.length c9) d.rule d.idx (.slice a1 d.kids.length c1))) W) := Lib.hid (by
              rw [HRES4.out]
              exact ⟨_, _, rfl, hrepc, hrepd, HX12.out.1, HX12.out.2, hrdW, hgW⟩)
            clear hW hWc hrepc hrepd hrdW hgW
            exact bodyPost_ret (v := .agg #[.slice a9 cs9.length c9, .int .i64 d.rule, .int .i64 d.idx, .slice a1 d.kids.length c1]) (by simp [results, Tryd.results41, go_sem, e0, e1, e2, e3]) rfl HPOST.out
        · have H7 := Lib.hid h7
          have HRES2 := HRES.out
          rw [if_neg h7] at HRES2
          have HRES3 := Lib.hid HRES2
          clear HRES2 h7
          refine (take_bad b toks lv k' en n' df wf 2 (by decide) _ RD7.out H7.out).mono ?_
          rintro e w8 ⟨rfl, m, rfl⟩
          go_wp2
          refine ⟨rfl, ?_⟩
          rw [HRES3.out]
          exact ⟨rfl, grown_drewN GW7.out m⟩
    · have hv : (((kindAt toks kk : Nat) : Int) == 2) = false := by simp; omega
      rw [hv]
      have HCE : Hid (ctxM F toks (toks.length + 1) 3 0 [] = match F kk nn with
          | .ok d k' n' => ctxM F toks (toks.length + 1 - (rows.length + 1)) k' n' (rows.map Prod.fst ++ [d])
          | .bad k' y => .bad k' y) := Lib.hid (by
        rw [HC.out.eq]
        obtain ⟨q, hq⟩ : ∃ q, toks.length + 1 - rows.length = q + 1 := ⟨toks.length - rows.length, by omega⟩
        have hq2 : toks.length + 1 - (rows.length + 1) = q := by omega
        rw [hq, hq2]
        simp only [ctxM, hk6, if_false]
        cases F kk nn <;> rfl)
      clear hk6 hv
      cases hq : F kk nn with
      | bad k' y =>
        have HRES : Hid (restM F toks (ctxM F toks (toks.length + 1) 3 0 []) = .bad k' y) := Lib.hid (by rw [HCE.out, hq]; rfl)
        have HCALL : Hid (∀ m, Calls Tryd.prog 63 #[.pointer (some ⟨b, 0, none⟩), .int .i64 1] (w4.drewN m) (BadPost (w4.drewN m) b toks en k' y)) := Lib.hid (fun m => by
          have := IH.out kk nn (w4.drewN m) (HC.out.st.rd.drewN m) (below_drewN HBWR.out m) (by omega) (by omega)
          rw [hq] at this
          exact this)
        clear hq HCE
        go_wp2_with fail
        refine wp_region_pan_lit 3 [4, 5, 7] (PanR w4 b toks en k' y) (by kernel_rfl) (by kernel_rfl) (by kernel_rfl) (by kernel_rfl) ?_ ?_
        · rintro chain a' w'' hd ⟨rfl, hg⟩
          refine ⟨hd, ?_⟩
          rw [HRES.out]
          exact ⟨rfl, grown_trans HC.out.st.gr hg⟩
        · iterate 3 (refine pan_still rfl rfl rfl (fun K hK => ?_); go_simp; refine hK _ ?_; clear hK K)
          refine pan_call rfl rfl rfl (fun m => ?_) ?_
          · go_simp
            refine (HCALL.out m).mono ?_
            rintro e w'' ⟨rfl, hg⟩
            exact ⟨_, rfl, ⟨rfl, grown_trans (grown_drewN (grown_refl _ _) m) hg⟩⟩
          refine pan_late rfl rfl rfl rfl ?_
          refine pan_late rfl rfl rfl rfl ?_
          refine pan_still rfl rfl rfl (fun K hK => ?_)
          go_simp
          refine hK _ ?_
          clear hK K
          refine pan_late rfl rfl rfl rfl ?_
          exact yLex_end trivial
      | ok d k' n' =>
        have hmov := HMOV.out kk nn hk2'
        rw [hq] at hmov
        simp only [Moves] at hmov
        have HKM : Hid (ctxM F toks (toks.length + 1) 3 0 [] = ctxM F toks (toks.length + 1 - (rows.length + 1)) k' n' (rows.map Prod.fst ++ [d])) := Lib.hid (by rw [HCE.out, hq])
        have HCALL : Hid (∀ m, Calls Tryd.prog 63 #[.pointer (some ⟨b, 0, none⟩), .int .i64 1] (w4.drewN m) (OkPost (w4.drewN m) b toks lv en df wf d k' n')) := Lib.hid (fun m => by
          have := IH.out kk nn (w4.drewN m) (HC.out.st.rd.drewN m) (below_drewN HBWR.out m) (by omega) (by omega)
          rw [hq] at this
          exact this)
        clear hq HCE
        obtain ⟨hi, hi0, hi1, hi2⟩ := HINF.out
        have HBX : Hid (w4.heap[w.heap.size + 1]? = some (.cells #[v, .int .i64 0, .int .i64 0, .slice none 0 0] 26 (0, 0))) := Lib.hid HC.out.st.box
        have HOWN := Lib.hid HC.out.own
        go_wp2_with fail
        have hrl : rows.length ≤ 1099511627776 := by omega
        go_region_law
          (first
            | (go_simp
               go_at_call 63
               refine (HCALL.out 1).mono ?_
               rintro e w6 ⟨v1, rfl, hrep1, hx1, hx2, hrd6, hg6⟩
               obtain ⟨hl1, a1, c1, rfl⟩ := hrep1.form
               have hg6' : w4.grownBy w6 (some b) := grown_trans (grown_drewN (grown_refl _ _) 1) hg6
               have hbx6 : w6.heap[w.heap.size + 1]? = some (.cells #[v, .int .i64 0, .int .i64 0, .slice none 0 0] 26 (0, 0)) := by
                 rw [hg6'.block _ hltw (by simp; omega)]; exact HBX.out
               have kd2 : w6.cell? ⟨w.heap.size + 1, 0, none⟩ = some v := by simp [World.cell?, hbx6]
               have hnb : v.ownBlock ≠ some b := fun he => by have := (HOWN.out.lt b he).1; omega
               have hown6 : w6.ownsRow (w.heap.size + 2) 24 3 v rows.length (kidCells rows) := HOWN.out.kept hg6' (.inr hnb)
               have hsz6 : w.heap.size + 1 < w6.heap.size := Nat.lt_of_lt_of_le hltw hg6'.size
               unfold derivV)
            | (refine step_append_lies _ (by rfl) _ _ _ (by rfl) (w.heap.size + 2) 24 i0 _ 3 40 Tryd.underlying22 hi hi0 hi1 hi2 rfl (by omega) v rows.length (kidCells rows) (by rfl) (hown6.alloc _)
                ⟨w6.heap.size, 0, none⟩ 1 1 [.int .i64 d.rule, .int .i64 d.idx, .slice a1 d.kids.length c1] (by rfl) (by simp) (World.news_of_block (cs := #[.int .i64 d.rule, .int .i64 d.idx, .slice a1 d.kids.length c1]) (t := 24) (fr := (0, 0)) (heap_alloc_new w6 _)) (by simp [Value.oneCell'])
                (by omega) (by unfold maxLen; omega) (by omega) (by simp; omega) (w6.heap.size + 1) (by simp) ?_
               intro g cap w7 hown7 hgrow7 hat7 hlt7
               have hbx7 : w7.heap[w.heap.size + 1]? = some (.cells #[v, .int .i64 0, .int .i64 0, .slice none 0 0] 26 (0, 0)) := by
                 rw [hgrow7.block _ (by simp; omega) (fun he => by have := (HOWN.out.lt _ he.symm).1; omega), Lib.alloc_old _ _ _ hsz6]; exact hbx6
               have ld2 : w7.cell? ⟨w.heap.size + 1, 0, none⟩ = some v := by simp [World.cell?, hbx7]
               have lf2 : w7.frozen? ⟨w.heap.size + 1, 0, none⟩ = false := by simp [World.frozen?, hbx7]))
        all_goals
          have hC1 := CSt.next HR0.out HC.out HKM.out hmov hrep1 hx1 hx2 hrd6 hg6' hown7 hgrow7 (by simpa using hat7) hbx7
          have HM2 := Lib.hid hC1.st.rd.at.2.1
          have C1 := Lib.hid hC1
          clear hC1 hrep1 hx1 hx2 hrd6 hg6 hg6' hbx6 kd2 hnb hown6 hown7 hgrow7 hat7 hbx7 ld2 lf2 d0 hi hi0 hi1 hi2
          go_wp2
          go_roundw
          case rel => exact ⟨k', n', _, _, C1.out⟩
          case measure =>
            rw [HM1.out, HM2.out]
            show toks.length - (k' : Int).toNat < toks.length - (kk : Int).toNat
            omega
end
end Go.Proofs.YtfpiogaakblpeaaDoor
