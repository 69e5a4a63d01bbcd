/- Walk of transhipref09.At: its state at the head of its loop. Walk of transhipref09.At. -/
import Derived.Test.YtfklmcmoackepaaDoorSgC
import Derived.Test.YtfklmcmoackepaaDoorQt
import Derived.Test.YtfklmcmoackepaaDoorSgD
import Derived.Test.YtfklmcmoackepaaDoorSgB
namespace Go.Proofs.YtfklmcmoackepaaDoor
open Go.RowKit

/-- the state behind some of the symbol's params: the reader in block rb, the symbol in block sb -/
structure RA (E : REnv) (lv : Value) (w : World) (rb sb : Nat) (nv : Value) (nm : List (List UInt8)) (cs : Array Value) (rows : List (TT × Value)) (pv : Value) (wr : World) (k : Nat) : Prop where
  big : w.heap.size < rb ∧ rb < sb
  rq : Rq E lv rb wr nv nm (.ok k)
  lvs : ∀ x, lv.ownBlock = some x → x < rb
  nvs : ∀ x, nv.ownBlock = some x → sb + 1 ≤ x ∧ some x ≠ pv.ownBlock
  sym : wr.heap[sb]? = some (.cells cs 29 (0, 0))
  res : wr.heap[w.heap.size]? = some (.cells (symCells ⟨#[]⟩ nilV 0 0 0 0 nilV 0 0 0 0 nilV false) 29 (0, 0))
  low : Below w.heap.size w wr
  pars : wr.ownsRow (sb + 1) 24 5 pv rows.length (kidCells rows)
  kids : ∀ p ∈ rows, RepTS wr (fun x => sb + 1 ≤ x ∧ some x ≠ pv.ownBlock) p.1.kids p.2 ∧ p.1.in4
section
variable {E : REnv} {lv : Value} {w : World} {rb sb : Nat} {nv nv' : Value} {nm nm' : List (List UInt8)} {cs : Array Value} {rows : List (TT × Value)} {pv : Value} {wr w6 : World} {k k' : Nat}
theorem RA.lt (h : RA E lv w rb sb nv nm cs rows pv wr k) : sb < wr.heap.size := (Array.getElem?_eq_some_iff.1 h.sym).1
/-- the reader turns, and memory is made -/
theorem RA.move (h : RA E lv w rb sb nv nm cs rows pv wr k) (hr : Rq E lv rb w6 nv' nm' (.ok k')) (g : wr.grownBy w6 (some rb)) (hnv : nv' = nv ∨ ∀ x, nv'.ownBlock = some x → wr.heap.size ≤ x) : RA E lv w rb sb nv' nm' cs rows pv w6 k' := by
  have hlt := h.lt
  obtain ⟨hb1, hb2⟩ := h.big
  refine { big := h.big, rq := hr, lvs := h.lvs, nvs := ?_, sym := ?_, res := ?_, low := ?_, pars := ?_, kids := ?_ }
  · rcases hnv with rfl | hnv
    · exact h.nvs
    · intro x hx
      have := hnv x hx
      exact ⟨by omega, fun he => by have := h.pars.lt x he.symm; omega⟩
  · rw [g.block _ hlt (by simp; omega)]; exact h.sym
  · rw [g.block _ (by omega) (by simp; omega)]; exact h.res
  · exact h.low.trans (below_of_grown g (by omega) h.low.size)
  · exact h.pars.kept g (.inr (fun he => by have := (h.pars.lt rb he).1; omega))
  · intro p hp
    obtain ⟨h1, h2⟩ := h.kids p hp
    exact ⟨h1.kept g.size fun x hx hxl => ⟨g.block x hxl (by simp; omega), hx⟩, h2⟩
theorem RA.turn (h : RA E lv w rb sb nv nm cs rows pv wr k) (ht : TurnQ E lv rb wr nv nm (.ok k') w6) : RA E lv w rb sb nv nm cs rows pv w6 k' := h.move ht.1 ht.2 (.inl rfl)
theorem RA.drewN (h : RA E lv w rb sb nv nm cs rows pv wr k) (n : Nat) : RA E lv w rb sb nv nm cs rows pv (wr.drewN n) k := h.move (h.rq.drewN n) (grown_drewN (grown_refl _ _) n) (.inl rfl)
theorem RA.below (h : RA E lv w rb sb nv nm cs rows pv wr k) (hb : Below wr.heap.size wr w6) : RA E lv w rb sb nv nm cs rows pv w6 k := h.move (h.rq.kept hb) (grown_below hb) (.inl rfl)
theorem RA.step (h : RA E lv w rb sb nv nm cs rows pv wr k) (k' : Nat) (hk : k' ≤ E.l.length) : RA E lv w rb sb nv nm cs rows pv (wr.setCell ⟨rb, 1, none⟩ (.int .i64 k')) k' := h.move (h.rq.step k' hk) (grown_set (grown_refl _ _) 1 _) (.inl rfl)
/-- the symbol alone turns -/
theorem RA.set (h : RA E lv w rb sb nv nm cs rows pv wr k) (j : Nat) (v : Value) : RA E lv w rb sb nv nm (cs.setIfInBounds j v) rows pv (wr.setCell ⟨sb, j, none⟩ v) k := by
  have hlt := h.lt
  obtain ⟨hb1, hb2⟩ := h.big
  have hx : ∀ x, x ≠ sb → (wr.setCell ⟨sb, j, none⟩ v).heap[x]? = wr.heap[x]? := fun x hx => Below.heap_setCell _ _ _ _ hx
  have gs : wr.grownBy (wr.setCell ⟨sb, j, none⟩ v) (some sb) := grown_set (grown_refl _ _) j v
  refine { big := h.big, rq := ?_, lvs := h.lvs, nvs := h.nvs, sym := set1_at h.sym j v, res := ?_, low := ?_, pars := ?_, kids := ?_ }
  · exact h.rq.same gs.size (hx rb (by omega)) (fun x hxl => hx x (by have := h.lvs x hxl; omega)) (fun x hxn => hx x (by have := (h.nvs x hxn).1; omega))
  · rw [hx _ (by omega)]; exact h.res
  · exact h.low.setCell (p := ⟨sb, j, none⟩) (by show w.heap.size ≤ sb; omega) v
  · exact h.pars.kept gs (.inr (fun he => by have := (h.pars.lt sb he).1; omega))
  · intro p hp
    obtain ⟨h1, h2⟩ := h.kids p hp
    exact ⟨h1.kept gs.size fun x hx1 _ => ⟨hx x (by omega), hx1⟩, h2⟩
/-- a param more -/
theorem RA.push {wa w7 : World} (h : RA E lv w rb sb nv nm cs rows pv wa k) {B : Nat} (hB : ∀ x, pv.ownBlock = some x → x < B) (hDB : sb + 1 ≤ B) {t : TT} {v1 : Value} (hrep : RepTS wa (fun x => B ≤ x) t.kids v1 ∧ t.in4) {g cap : Nat} (hgrow7 : wa.grownBy w7 pv.ownBlock) (hat : pv.ownBlock = some g ∨ g = wa.heap.size)
    (hown7 : w7.ownsRow (sb + 1) 24 5 (.slice (some ⟨g, 0, none⟩) (rows.length + 1) cap) (rows.length + 1) (kidCells rows ++ [.int .i64 t.kd, .int .i64 t.ni, .int .i64 t.nj, .int .i64 t.nn, v1])) :
    RA E lv w rb sb nv nm cs (rows ++ [(t, v1)]) (.slice (some ⟨g, 0, none⟩) (rows.length + 1) cap) w7 k := by
  have hlt := h.lt
  obtain ⟨hb1, hb2⟩ := h.big
  have hs7 := hgrow7.size
  have hplt := fun x hx => h.pars.lt x hx
  have hnvl := h.rq.hasN.own_lt
  have hx : ∀ x, x < wa.heap.size → some x ≠ pv.ownBlock → w7.heap[x]? = wa.heap[x]? := fun x h1 h3 => hgrow7.block x h1 h3
  have hlow : ∀ x, x < sb + 1 → w7.heap[x]? = wa.heap[x]? := fun x hl => hx x (by omega) (fun he => by have := hplt x he.symm; omega)
  have hother : ∀ x, x < wa.heap.size → some x ≠ pv.ownBlock → some x ≠ (Value.slice (some ⟨g, 0, none⟩) (rows.length + 1) cap).ownBlock := fun x hxl h3 => by
    simp only [Value.ownBlock]
    rcases hat with h | h
    · rw [← h]; exact h3
    · simp; omega
  refine { big := h.big, rq := ?_, lvs := h.lvs, nvs := ?_, sym := ?_, res := ?_, low := ?_, pars := ?_, kids := ?_ }
  · exact h.rq.same hs7 (hlow rb (by omega)) (fun x hxl => hlow x (by have := h.lvs x hxl; omega)) (fun x hxn => hx x (hnvl x hxn) (h.nvs x hxn).2)
  · intro x hxn
    exact ⟨(h.nvs x hxn).1, hother x (hnvl x hxn) (h.nvs x hxn).2⟩
  · rw [hlow _ (by omega)]; exact h.sym
  · rw [hlow _ (by omega)]; exact h.res
  · have g := h.low
    exact Below.mk (hgrow7.os.trans g.os) (hgrow7.tape.trans g.tape) (hgrow7.output.trans g.output) (by have := g.size; omega) (fun x hl => (hlow x (by omega)).trans (g.block x hl))
  · simpa [kidCells_append, kidCells] using hown7
  · intro p hp
    rcases List.mem_append.1 hp with hp | hp
    · obtain ⟨h1, h2⟩ := h.kids p hp
      exact ⟨h1.kept hs7 fun x hx1 hxl => ⟨hx x hxl hx1.2, hx1.1, hother x hxl hx1.2⟩, h2⟩
    · obtain rfl : p = (t, v1) := by simpa using hp
      obtain ⟨h1, h2⟩ := hrep
      exact ⟨h1.kept hs7 fun x hx1 hxl => ⟨hx x hxl (fun he => by have := hB x he.symm; omega), by omega, hother x hxl (fun he => by have := hB x he.symm; omega)⟩, h2⟩
theorem RA.done (h : RA E lv w rb sb nv nm cs rows pv wr k) : RepTS wr (fun x => sb + 1 ≤ x) (rows.map Prod.fst) pv :=
  repTS_of_owns h.pars (fun g hg => (h.pars.lt g hg).1) fun p hp => by
    obtain ⟨h1, h2⟩ := h.kids p hp
    exact ⟨h1.kept (Nat.le_refl _) fun x hx _ => ⟨rfl, hx.1⟩, h2⟩
end
end Go.Proofs.YtfklmcmoackepaaDoor

namespace Go.Proofs.YtfklmcmoackepaaDoor
open Go.RowKit

def measQ (b len : Nat) (wr : World) : Nat := match wr.cell? ⟨b, 1, none⟩ with
  | some (.int _ q) => len + 1 - q.toNat
  | _ => 0
theorem measQ_is {E : REnv} {lv : Value} {b : Nat} {w : World} {nv : Value} {nm : List (List UInt8)} {k : Nat} (h : Rq E lv b w nv nm (.ok k)) (len : Nat) : measQ b len w = len + 1 - k := by
  unfold measQ
  rw [h.at.2.2.1]
  simp
/-- the page's Term where a term is read -/
theorem qterm_ok {E : REnv} {lv : Value} {b : Nat} {w : World} {nv : Value} {nm : List (List UInt8)} {k e : Nat} {t : TT} (htx : ∀ k, kindAt E.l k = 3 → textAt E.l k ≠ []) (h : Rq E lv b w nv nm (.ok k)) (hn : nm.length ≤ 1099511627776) (ht : termM E (E.l.length + 1) nm 2 k = .ok t e) :
    Calls Tryd.prog 23 #[.pointer (some ⟨b, 0, none⟩), .int .i64 2] w fun en w' => ∃ (a : Option Addr) (l c : Nat) (nv' : Value), en = .returned (termV t.kd t.ni t.nj t.nn (.slice a l c)) ∧ Rq E lv b w' nv' nm (.ok e) ∧ w.grownBy w' (some b) ∧ (nv' = nv ∨ ∀ x, nv'.ownBlock = some x → w.heap.size ≤ x) ∧ RepTS w' (fun x => w.heap.size ≤ x) t.kids (.slice a l c) ∧ t.in4 := by
  refine (qterm_any htx (E.l.length + 1) nv nm (.ok k) 2 w h (fun k1 hk => by cases hk; have := h.len; omega) (by decide)).mono fun en w' hp => ?_
  obtain ⟨t1, a, l, c, nv', he, hr, hg, hnv, hv⟩ := hp
  simp only [Md.go, ht] at hr hv
  obtain ⟨rfl, h2, h3⟩ := hv t e rfl
  exact ⟨a, l, c, nv', he, hr, hg, hnv, h2, h3⟩
theorem names_one (w : World) (s : List UInt8) : Has (w.alloc (.cells #[.string ⟨s.toArray⟩] 9)) 1 (.slice (some ⟨w.heap.size, 0, none⟩) 1 1) [s].length (textRow [s]) := by
  have := World.ownsRow_lit (base := w.heap.size) (e := 9) (size := 1) w (textRow [s]).toArray 1 (Nat.le_refl _) (by unfold maxLen; simp) (by simp [textRow])
  simpa [textRow] using Has.of_owns this
theorem spans_ne' (l : List UInt8) : ∀ (pos : Nat) (toks : List Tok), Spans l pos toks → ∀ (k : Nat) (h : k < toks.length), toks[k].text ≠ []
  | _, _ :: _, hs, 0, _ => fun he => by have := hs.2.2.2.2.1; rw [List.getElem_cons_zero] at he; rw [he] at this; simp at this
  | _, t :: ts, hs, k + 1, h => spans_ne' l _ ts hs.2.2.2.2.2 k (by simpa using h)
theorem tok_ne' {l : List UInt8} {toks : List Tok} (h : lexL l = (toks, none)) (k : Nat) (hk : kindAt toks k = 3) : textAt toks k ≠ [] := by
  have hlt := kindAt_lt (l := toks) (k := k) (by omega)
  rw [textAt_eq hlt]
  exact spans_ne' l 0 toks (spans_lexL _ _ h) k hlt
theorem params_in : ∀ {a b : List TT} {k : Nat} {t : TT}, paramsOK k (a ++ t :: b) = true → sortK t.kd = 0 ∨ sortK t.kd = 2
  | [], b, k, t, h => by
    simp only [List.nil_append, paramsOK, Bool.and_eq_true] at h
    exact plain_sort h.1.1
  | u :: a, b, k, t, h => by
    simp only [List.cons_append, paramsOK, Bool.and_eq_true] at h
    exact params_in h.2

set_option maxHeartbeats 20000000 in
set_option maxRecDepth 100000 in
theorem rat_line (m i j : Nat) (hm : m < 21) (hi : i < 1000) (hj : j < 1000) {text : List UInt8} (htxt : (funcVals Tryd.f16)[m]? = some (.string ⟨text.toArray⟩)) (hsz : text.length ≤ 1099511627776) {s : LineM} (hs : lineM text i j = some s) (hok : SymOK m s) (w : World) :
    Calls Tryd.prog 7 #[.int .i64 ((m : Int) + 1), .int .i64 i, .int .i64 j] w (AtOut w s) := by
  obtain ⟨toks, hl, k0, k1, k2, k3, ps, nmE, kE, ty, bd, hps, hkE, hrest, rfl⟩ := line_parts hs
  have HL := Lib.hid hl
  have HK := Lib.hid (And.intro k0 (And.intro k1 (And.intro k2 k3)))
  have HPS := Lib.hid hps
  have HKE := Lib.hid hkE
  have HREST := Lib.hid hrest
  have HOKP : Hid (paramsOK 0 ps = true ∧ (sortK ty.kd = 0 ∨ sortK ty.kd = 2) ∧ (textAt toks 1 = wDef → (sortK bd.kd = 0 ∨ sortK bd.kd = 2))) := Lib.hid ⟨hok.params, plain_sort hok.type, fun he => plain_sort (by have := hok.body; dsimp only at this; rw [this]; exact decide_eq_true he)⟩
  have HIJ := Lib.hid (And.intro hi hj)
  have HSZ : Hid ((ByteArray.mk text.toArray).size ≤ 1099511627776) := Lib.hid (by simpa [ByteArray.size] using hsz)
  have HLEN : Hid (toks.length ≤ 1099511627776) := Lib.hid (by have := lexL_length text; rw [hl] at this; dsimp only at this; omega)
  have HTXL : Hid (∀ k, (textAt toks k).length ≤ 1099511627776) := Lib.hid (fun k => by
    have h1 := textAt_le ⟨text.toArray⟩ toks (by simpa using hl) k
    have h2 := HSZ.out
    omega)
  have HNE : Hid (∀ k, kindAt toks k = 3 → textAt toks k ≠ []) := Lib.hid (fun k hk => tok_ne' hl k hk)
  have g1 : decide ((m : Int) + 1 < 1) = false := by simp; omega
  have g2 : decide ((21 : Int) < (m : Int) + 1) = false := by simp; omega
  have g3 : decide ((i : Int) < 0) = false := by simp
  have g4 : decide ((1000 : Int) ≤ (i : Int)) = false := by simp; omega
  have g5 : decide ((j : Int) < 0) = false := by simp
  have g6 : decide ((1000 : Int) ≤ (j : Int)) = false := by simp; omega
  have hc0 : ((w.alloc (.cells #[.string ⟨#[]⟩, .slice none 0 0, .int .i64 0, .int .i64 0, .int .i64 0, .int .i64 0, .slice none 0 0, .int .i64 0, .int .i64 0, .int .i64 0, .int .i64 0, .slice none 0 0, .bool false] 29)).alloc (.cells (funcVals Tryd.f16).toArray 9)).cell? ⟨w.heap.size + 1, m, none⟩ = some (.string ⟨text.toArray⟩) := by
    have := new_heap (w.alloc (.cells #[.string ⟨#[]⟩, .slice none 0 0, .int .i64 0, .int .i64 0, .int .i64 0, .int .i64 0, .slice none 0 0, .int .i64 0, .int .i64 0, .int .i64 0, .int .i64 0, .slice none 0 0, .bool false] 29)) (funcVals Tryd.f16).toArray 9
    simp only [World.size_alloc] at this
    simp only [World.cell?, this]
    simpa using htxt
  have hr0 : ((w.alloc (.cells #[.string ⟨#[]⟩, .slice none 0 0, .int .i64 0, .int .i64 0, .int .i64 0, .int .i64 0, .slice none 0 0, .int .i64 0, .int .i64 0, .int .i64 0, .int .i64 0, .slice none 0 0, .bool false] 29)).alloc (.cells (funcVals Tryd.f16).toArray 9)).heap[w.heap.size]? = some (.cells #[.string ⟨#[]⟩, .slice none 0 0, .int .i64 0, .int .i64 0, .int .i64 0, .int .i64 0, .slice none 0 0, .int .i64 0, .int .i64 0, .int .i64 0, .int .i64 0, .slice none 0 0, .bool false] 29 (0, 0)) :=
    (Lib.alloc_old _ _ _ (by simp)).trans (new_heap _ _ _)
  have HB0 : Hid (Below w.heap.size w ((w.alloc (.cells #[.string ⟨#[]⟩, .slice none 0 0, .int .i64 0, .int .i64 0, .int .i64 0, .int .i64 0, .slice none 0 0, .int .i64 0, .int .i64 0, .int .i64 0, .int .i64 0, .slice none 0 0, .bool false] 29)).alloc (.cells (funcVals Tryd.f16).toArray 9)) ∧ ((w.alloc (.cells #[.string ⟨#[]⟩, .slice none 0 0, .int .i64 0, .int .i64 0, .int .i64 0, .int .i64 0, .slice none 0 0, .int .i64 0, .int .i64 0, .int .i64 0, .int .i64 0, .slice none 0 0, .bool false] 29)).alloc (.cells (funcVals Tryd.f16).toArray 9)).heap.size = w.heap.size + 2) := Lib.hid ⟨(below_alloc _ _).trans ((below_alloc _ _).mono (by simp)), by simp⟩
  have HC0 := Lib.hid hc0
  have HR0 := Lib.hid hr0
  clear hl k0 k1 k2 k3 hps hkE hrest hs htxt hsz hc0 hr0 hok
  go_enter Tryd.func7, Tryd.ntmps7
  go_wp2_with fail
  refine (library_any _).mono ?_
  rintro e _ ⟨rfl, rfl⟩
  generalize funcVals Tryd.f16 = fv at *
  have hc0 := HC0.out
  have hs0 := HB0.out.2
  generalize (w.alloc (.cells #[.string ⟨#[]⟩, .slice none 0 0, .int .i64 0, .int .i64 0, .int .i64 0, .int .i64 0, .slice none 0 0, .int .i64 0, .int .i64 0, .int .i64 0, .int .i64 0, .slice none 0 0, .bool false] 29)).alloc (.cells fv.toArray 9) = W0 at *
  go_wp2_with fail
  refine (rlex_any ⟨text.toArray⟩ W0 HSZ.out).mono ?_
  intro e w1 h1
  obtain ⟨v, toks', f', hl', rfl, hown, hb1⟩ := h1
  obtain ⟨hq1, rfl⟩ : toks = toks' ∧ f' = none := by
    have h := HL.out
    have h' : lexL text = (toks', f') := hl'
    rw [h'] at h
    cases h
    exact ⟨rfl, rfl⟩
  subst hq1
  clear hl'
  obtain ⟨al, cl, rfl⟩ := own_form hown
  have hlv : ∀ x, (Value.slice al toks.length cl).ownBlock = some x → w.heap.size + 2 ≤ x ∧ x < w1.heap.size := fun x hx => by have := hown.lt x hx; omega
  have hw1 : w.heap.size + 2 ≤ w1.heap.size := by have := hb1.size; omega
  have HR1 : Hid (w1.heap[w.heap.size]? = some (.cells #[.string ⟨#[]⟩, .slice none 0 0, .int .i64 0, .int .i64 0, .int .i64 0, .int .i64 0, .slice none 0 0, .int .i64 0, .int .i64 0, .int .i64 0, .int .i64 0, .slice none 0 0, .bool false] 29 (0, 0))) := Lib.hid ((hb1.block _ (by omega)).trans HR0.out)
  have HB1 := Lib.hid (HB0.out.1.trans (hb1.mono HB0.out.1.size))
  have HRQ : Hid (Rq ⟨toks, i, j⟩ (.slice al toks.length cl) w1.heap.size (w1.alloc (.cells #[.slice al toks.length cl, .int .i64 0, .int .i64 (-1), .int .i64 i, .int .i64 j, .slice none 0 0] 60)) nilV [] (.ok 0)) := Lib.hid (by
    refine { cells := ⟨0, -1, new_heap _ _ _, rfl, Nat.zero_le _, rfl⟩, hasN := Has.nil _ _, farN := by simp [Value.ownBlock], cap := ⟨none, 0, rfl, Nat.le_refl _⟩, has := (Has.of_owns hown).below (below_alloc _ _), far := fun he => by have := hlv _ he; omega, short := HTXL.out, len := HLEN.out, lev := by have := HIJ.out; exact ⟨by show i ≤ 1000; omega, by show j ≤ 1000; omega⟩, names := by simp })
  have HLV := Lib.hid hlv
  clear hown hb1 hlv hc0
  go_wp2_with fail
  have HB2 : Hid (Below w.heap.size w (w1.alloc (.cells #[.slice al toks.length cl, .int .i64 0, .int .i64 (-1), .int .i64 i, .int .i64 j, .slice none 0 0] 60))) := Lib.hid (HB1.out.trans ((below_alloc _ _).mono HB1.out.size))
  have HR2 : Hid ((w1.alloc (.cells #[.slice al toks.length cl, .int .i64 0, .int .i64 (-1), .int .i64 i, .int .i64 j, .slice none 0 0] 60)).heap[w.heap.size]? = some (.cells #[.string ⟨#[]⟩, .slice none 0 0, .int .i64 0, .int .i64 0, .int .i64 0, .int .i64 0, .slice none 0 0, .int .i64 0, .int .i64 0, .int .i64 0, .int .i64 0, .slice none 0 0, .bool false] 29 (0, 0)) ∧ (w1.alloc (.cells #[.slice al toks.length cl, .int .i64 0, .int .i64 (-1), .int .i64 i, .int .i64 j, .slice none 0 0] 60)).heap.size = w1.heap.size + 1) := Lib.hid ⟨(Lib.alloc_old _ _ _ (by omega)).trans HR1.out, by simp⟩
  refine (qwant_ok (E := ⟨toks, i, j⟩) 1 (by decide) HK.out.1 HRQ.out).mono ?_
  rintro e w2 ⟨rfl, ht2⟩
  generalize hrb : w1.heap.size = rb at *
  have hw2 : rb + 1 ≤ w2.heap.size := by have := ht2.2.size; rw [HR2.out.2] at this; omega
  have HRA0 : Hid (RA ⟨toks, i, j⟩ (.slice al toks.length cl) w rb w2.heap.size nilV [] #[.string ⟨#[]⟩, .slice none 0 0, .int .i64 0, .int .i64 0, .int .i64 0, .int .i64 0, .slice none 0 0, .int .i64 0, .int .i64 0, .int .i64 0, .int .i64 0, .slice none 0 0, .bool false] [] nilV (w2.alloc (.cells #[.string ⟨#[]⟩, .slice none 0 0, .int .i64 0, .int .i64 0, .int .i64 0, .int .i64 0, .slice none 0 0, .int .i64 0, .int .i64 0, .int .i64 0, .int .i64 0, .slice none 0 0, .bool false] 29)) 1) := Lib.hid (by
    have hb3 := below_alloc w2 (.cells #[.string ⟨#[]⟩, .slice none 0 0, .int .i64 0, .int .i64 0, .int .i64 0, .int .i64 0, .slice none 0 0, .int .i64 0, .int .i64 0, .int .i64 0, .int .i64 0, .slice none 0 0, .bool false] 29)
    refine { big := ⟨by omega, by omega⟩, rq := ht2.1.kept hb3, lvs := fun x hx => (HLV.out x hx).2, nvs := fun x hx => by simp [Value.ownBlock] at hx, sym := new_heap _ _ _, res := ?_, low := ?_, pars := World.ownsRow_nil _ _ _ _, kids := fun p hp => by simp at hp }
    · rw [hb3.block _ (by omega), ht2.2.block _ (by rw [HR2.out.2]; omega) (by simp; omega)]; exact HR2.out.1
    · exact (HB2.out.trans (below_of_grown ht2.2 (by omega) HB2.out.size)).trans (hb3.mono (by have := HB2.out.size; have := ht2.2.size; omega)))
  clear ht2
  go_wp2_with fail
  have hne9 : ¬ w2.heap.size = rb := by omega
  generalize hsb : w2.heap.size = sb at *
  generalize w2.alloc (.cells #[.string ⟨#[]⟩, .slice none 0 0, .int .i64 0, .int .i64 0, .int .i64 0, .int .i64 0, .slice none 0 0, .int .i64 0, .int .i64 0, .int .i64 0, .int .i64 0, .slice none 0 0, .bool false] 29) = W3 at *
  refine (qwant_ok (E := ⟨toks, i, j⟩) 3 (by decide) HK.out.2.1 HRA0.out.rq).mono ?_
  rintro e w4 ⟨rfl, ht4⟩
  have HRA1 := Lib.hid (HRA0.out.turn ht4)
  clear ht4
  have hdd : (textAt toks 1 == [100, 101, 102]) = decide (textAt toks 1 = wDef) := by
    unfold wDef
    by_cases h : textAt toks 1 = [100, 101, 102]
    · rw [h]; decide
    · rw [decide_eq_false h]; exact beq_eq_false_iff_ne.2 h
  obtain ⟨d, hd⟩ : ∃ d, decide (textAt toks 1 = wDef) = d := ⟨_, rfl⟩
  have HDD := Lib.hid hd
  rw [hd] at hdd
  clear hd
  obtain ⟨s0, s1, s2, s3, s4, s5, s6, s7, s8, s9, s10, s11, s12, p0, p1, p2, p3, p4, p5, p6, p7, p8, p9, p10, p11, p12⟩ := cells13 HRA1.out.sym
  have hlt9 := HRA1.out.lt
  have HRA2 : Hid (RA ⟨toks, i, j⟩ (.slice al toks.length cl) w rb sb nilV [] #[.string ⟨#[]⟩, .slice none 0 0, .int .i64 0, .int .i64 0, .int .i64 0, .int .i64 0, .slice none 0 0, .int .i64 0, .int .i64 0, .int .i64 0, .int .i64 0, .slice none 0 0, .bool d] [] nilV (w4.setCell ⟨sb, 12, none⟩ (.bool d)) 2) := Lib.hid (HRA1.out.set 12 (.bool d))
  go_upto_region 9 with fail
  clear s0 s1 s2 s3 s4 s5 s6 s7 s8 s9 s10 s11 s12 p0 p1 p2 p3 p4 p5 p6 p7 p8 p9 p10 p11 p12
  clear hdd hlt9
  generalize w4.setCell ⟨sb, 12, none⟩ (.bool d) = W5 at *
  go_wp2_with fail
  refine (qwant_ok (E := ⟨toks, i, j⟩) 3 (by decide) HK.out.2.2.1 HRA2.out.rq).mono ?_
  rintro e w6 ⟨rfl, ht6⟩
  have HRA3 := Lib.hid (HRA2.out.turn ht6)
  clear ht6
  obtain ⟨tx2, h2⟩ : ∃ tx2, textAt toks 2 = tx2 := ⟨_, rfl⟩
  have HTX2 := Lib.hid h2
  rw [show textAt (REnv.mk toks i j).l 2 = tx2 from h2]
  clear h2
  obtain ⟨s0, s1, s2, s3, s4, s5, s6, s7, s8, s9, s10, s11, s12, p0, p1, p2, p3, p4, p5, p6, p7, p8, p9, p10, p11, p12⟩ := cells13 HRA3.out.sym
  have hlt9 := HRA3.out.lt
  have HRA4 : Hid (RA ⟨toks, i, j⟩ (.slice al toks.length cl) w rb sb nilV [] #[.string ⟨tx2.toArray⟩, .slice none 0 0, .int .i64 0, .int .i64 0, .int .i64 0, .int .i64 0, .slice none 0 0, .int .i64 0, .int .i64 0, .int .i64 0, .int .i64 0, .slice none 0 0, .bool d] [] nilV (w6.setCell ⟨sb, 0, none⟩ (.string ⟨tx2.toArray⟩)) 3) := Lib.hid (HRA3.out.set 0 (.string ⟨tx2.toArray⟩))
  go_upto_region 10 with fail
  clear s0 s1 s2 s3 s4 s5 s6 s7 s8 s9 s10 s11 s12 p0 p1 p2 p3 p4 p5 p6 p7 p8 p9 p10 p11 p12
  clear hlt9
  generalize w6.setCell ⟨sb, 0, none⟩ (.string ⟨tx2.toArray⟩) = W7 at *
  go_wp2_with fail
  refine (qwant_ok (E := ⟨toks, i, j⟩) 1 (by decide) HK.out.2.2.2 HRA4.out.rq).mono ?_
  rintro e w8 ⟨rfl, ht8⟩
  have HRA5 := Lib.hid (HRA4.out.turn ht8)
  clear ht8
  obtain ⟨it, hif, hi0, hi1, hi2⟩ := info_parts Tryd.infoTerm
  have HINF := Lib.hid (And.intro hif (And.intro hi0 (And.intro hi1 hi2)))
  clear hif hi0 hi1 hi2
  go_wp2_with fail
  go_loopw [13] (fun pvv wr => ∃ (nv : Value) (nm : List (List UInt8)) (rows : List (TT × Value)) (k f : Nat) (psr : List (TT)), RA ⟨toks, i, j⟩ (.slice al toks.length cl) w rb sb nv nm #[.string ⟨tx2.toArray⟩, .slice none 0 0, .int .i64 0, .int .i64 0, .int .i64 0, .int .i64 0, .slice none 0 0, .int .i64 0, .int .i64 0, .int .i64 0, .int .i64 0, .slice none 0 0, .bool d] rows pvv wr k ∧ rows.length ≤ k ∧ nm.length = rows.length ∧ paramsM text toks i j f k nm = some (psr, nmE, kE) ∧ rows.map Prod.fst ++ psr = ps) (fun _ wr => measQ rb toks.length wr)
  case atStart => exact ⟨nilV, [], [], 4, toks.length, ps, HRA5.out, by simp, rfl, HPS.out, rfl⟩
  case round =>
    obtain ⟨nv, nm, rows, k, f, psr, hra, hrk, hnr, hpm, hps⟩ := hrel
    have hst := params_step hpm
    obtain ⟨ap, cp, rfl⟩ := own_form hra.pars
    have HA := Lib.hid hra
    have HST := Lib.hid hst
    have HQ := Lib.hid (And.intro hrk (And.intro hnr hps))
    have HM := Lib.hid (measQ_is hra.rq toks.length)
    have hkle : k ≤ toks.length := hra.rq.le
    have HNM41 : Hid (nm.length ≤ 1099511627776) := Lib.hid (by have := HLEN.out; omega)
    obtain ⟨_, c0, c1, c2, c3, c4, c5⟩ := hra.rq.at
    clear hra hst hrk hnr hps hpm
    go_wp2_with fail
    refine (qkind HA.out.rq).mono ?_
    rintro e w9 ⟨rfl, n1, rfl⟩
    have HA1 := Lib.hid (HA.out.drewN n1)
    clear c0 c1 c2 c3 c4 c5
    rcases HST.out with ⟨hk1, hz1, hz2, hz3⟩ | ⟨hk1, hk3, t, e, ts, f', hone, hke, hpm, hpsr⟩
    · have hz2 := hz2.symm
      have hz3 := hz3.symm
      subst hz1 hz2 hz3
      have hk1b : ((kindAt toks k : Int) == 1) = false := by simp; omega
      clear hk1 HST
      go_wp2_with fail
      refine (qwant_ok (E := ⟨toks, i, j⟩) 2 (by decide) HKE.out HA1.out.rq).mono ?_
      rintro e w10 ⟨rfl, ht10⟩
      have HA2 := Lib.hid (HA1.out.turn ht10)
      clear ht10 hk1b
      obtain ⟨k2, hone, hor⟩ := rest_parts HREST.out
      have HOR := Lib.hid hor
      obtain ⟨htm, hae, hel⟩ := oneM_line hone HOKP.out.2.1
      have HTMT := Lib.hid htm
      clear hor hone htm hae hel
      obtain ⟨s0, s1, s2, s3, s4, s5, s6, s7, s8, s9, s10, s11, s12, p0, p1, p2, p3, p4, p5, p6, p7, p8, p9, p10, p11, p12⟩ := cells13 HA2.out.sym
      have hlt9 := HA2.out.lt
      have HA3 : Hid (RA ⟨toks, i, j⟩ (.slice al toks.length cl) w rb sb nv nm #[.string ⟨tx2.toArray⟩, .slice ap rows.length cp, .int .i64 0, .int .i64 0, .int .i64 0, .int .i64 0, .slice none 0 0, .int .i64 0, .int .i64 0, .int .i64 0, .int .i64 0, .slice none 0 0, .bool d] rows (.slice ap rows.length cp) (w10.setCell ⟨sb, 1, none⟩ (.slice ap rows.length cp)) (k + 1)) := Lib.hid (HA2.out.set 1 (.slice ap rows.length cp))
      have HPAR : Hid (RepTS (w10.setCell ⟨sb, 1, none⟩ (.slice ap rows.length cp)) (fun x => sb + 1 ≤ x) (rows.map Prod.fst) (.slice ap rows.length cp)) := Lib.hid (HA2.out.done.kp (Kp.set w10 1 _ (Nat.lt_succ_self sb)))
      go_upto_region 20 with fail
      clear s0 s1 s2 s3 s4 s5 s6 s7 s8 s9 s10 s11 s12 p0 p1 p2 p3 p4 p5 p6 p7 p8 p9 p10 p11 p12
      clear hlt9
      generalize w10.setCell ⟨sb, 1, none⟩ (.slice ap rows.length cp) = Wb at *
      go_wp2_with fail
      refine (qterm_ok (E := ⟨toks, i, j⟩) HNE.out HA3.out.rq HNM41.out HTMT.out).mono ?_
      rintro en wT ⟨aT, lT, cT, nvT, rfl, hr9, hg9, hnv9, hrep9, hin9⟩
      have HTT := Lib.hid (HA3.out.move hr9 hg9 hnv9)
      have HKT : Hid (Kp (sb + 1) Wb wT) := Lib.hid (Kp.grown hg9 (by have := HA3.out.big; omega))
      have HVT : Hid (RepTS wT (fun x => sb + 1 ≤ x) ty.kids (.slice aT lT cT)) := Lib.hid (hrep9.kept (Nat.le_refl _) fun x hx _ => ⟨rfl, by have := HA3.out.lt; omega⟩)
      clear hr9 hg9 hnv9 hrep9 hin9
      unfold termV
      obtain ⟨s0, s1, s2, s3, s4, s5, s6, s7, s8, s9, s10, s11, s12, p0, p1, p2, p3, p4, p5, p6, p7, p8, p9, p10, p11, p12⟩ := cells13 HTT.out.sym
      have hlt9 := HTT.out.lt
      have HST : Hid (RA ⟨toks, i, j⟩ (.slice al toks.length cl) w rb sb nvT nm #[.string ⟨tx2.toArray⟩, .slice ap rows.length cp, .int .i64 ty.kd, .int .i64 ty.ni, .int .i64 ty.nj, .int .i64 ty.nn, .slice aT lT cT, .int .i64 0, .int .i64 0, .int .i64 0, .int .i64 0, .slice none 0 0, .bool d] rows (.slice ap rows.length cp) (((((wT.setCell ⟨sb, 2, none⟩ (.int .i64 ty.kd)).setCell ⟨sb, 3, none⟩ (.int .i64 ty.ni)).setCell ⟨sb, 4, none⟩ (.int .i64 ty.nj)).setCell ⟨sb, 5, none⟩ (.int .i64 ty.nn)).setCell ⟨sb, 6, none⟩ (.slice aT lT cT)) k2) := Lib.hid (((((HTT.out.set 2 (.int .i64 ty.kd)).set 3 (.int .i64 ty.ni)).set 4 (.int .i64 ty.nj)).set 5 (.int .i64 ty.nn)).set 6 (.slice aT lT cT))
      have HKST : Hid (Kp (sb + 1) Wb (((((wT.setCell ⟨sb, 2, none⟩ (.int .i64 ty.kd)).setCell ⟨sb, 3, none⟩ (.int .i64 ty.ni)).setCell ⟨sb, 4, none⟩ (.int .i64 ty.nj)).setCell ⟨sb, 5, none⟩ (.int .i64 ty.nn)).setCell ⟨sb, 6, none⟩ (.slice aT lT cT))) := Lib.hid (HKT.out.trans (((((Kp.set wT 2 _ (Nat.lt_succ_self sb)).trans (Kp.set _ 3 _ (Nat.lt_succ_self sb))).trans (Kp.set _ 4 _ (Nat.lt_succ_self sb))).trans (Kp.set _ 5 _ (Nat.lt_succ_self sb))).trans (Kp.set _ 6 _ (Nat.lt_succ_self sb))))
      have HVST : Hid (RepTS (((((wT.setCell ⟨sb, 2, none⟩ (.int .i64 ty.kd)).setCell ⟨sb, 3, none⟩ (.int .i64 ty.ni)).setCell ⟨sb, 4, none⟩ (.int .i64 ty.nj)).setCell ⟨sb, 5, none⟩ (.int .i64 ty.nn)).setCell ⟨sb, 6, none⟩ (.slice aT lT cT)) (fun x => sb + 1 ≤ x) ty.kids (.slice aT lT cT)) := Lib.hid (HVT.out.kp (((((Kp.set wT 2 _ (Nat.lt_succ_self sb)).trans (Kp.set _ 3 _ (Nat.lt_succ_self sb))).trans (Kp.set _ 4 _ (Nat.lt_succ_self sb))).trans (Kp.set _ 5 _ (Nat.lt_succ_self sb))).trans (Kp.set _ 6 _ (Nat.lt_succ_self sb))))
      go_upto_region 21 with fail
      clear s0 s1 s2 s3 s4 s5 s6 s7 s8 s9 s10 s11 s12 p0 p1 p2 p3 p4 p5 p6 p7 p8 p9 p10 p11 p12
      clear hlt9
      generalize (((((wT.setCell ⟨sb, 2, none⟩ (.int .i64 ty.kd)).setCell ⟨sb, 3, none⟩ (.int .i64 ty.ni)).setCell ⟨sb, 4, none⟩ (.int .i64 ty.nj)).setCell ⟨sb, 5, none⟩ (.int .i64 ty.nn)).setCell ⟨sb, 6, none⟩ (.slice aT lT cT)) = Wc at *
      have HPAR2 := Lib.hid (HPAR.out.kp HKST.out)
      rcases HOR.out with ⟨hdef, k3, hone, hk3⟩ | ⟨hdef, rfl, hk3⟩
      · have hd1 : d = true := by rw [← HDD.out]; exact decide_eq_true hdef
        obtain ⟨htm, hae, hel⟩ := oneM_line hone (HOKP.out.2.2 hdef)
        have HTMD := Lib.hid htm
        have HK3 := Lib.hid hk3
        clear hdef hk3 hone htm hae hel
        subst hd1
        obtain ⟨s0, s1, s2, s3, s4, s5, s6, s7, s8, s9, s10, s11, s12, p0, p1, p2, p3, p4, p5, p6, p7, p8, p9, p10, p11, p12⟩ := cells13 HST.out.sym
        go_wp2_with fail
        clear s0 s1 s2 s3 s4 s5 s6 s7 s8 s9 s10 s11 s12 p0 p1 p2 p3 p4 p5 p6 p7 p8 p9 p10 p11 p12
        refine (qterm_ok (E := ⟨toks, i, j⟩) HNE.out HST.out.rq HNM41.out HTMD.out).mono ?_
        rintro en wD ⟨aD, lD, cD, nvD, rfl, hr9, hg9, hnv9, hrep9, hin9⟩
        have HTD := Lib.hid (HST.out.move hr9 hg9 hnv9)
        have HKD : Hid (Kp (sb + 1) Wc wD) := Lib.hid (Kp.grown hg9 (by have := HST.out.big; omega))
        have HVD : Hid (RepTS wD (fun x => sb + 1 ≤ x) bd.kids (.slice aD lD cD)) := Lib.hid (hrep9.kept (Nat.le_refl _) fun x hx _ => ⟨rfl, by have := HST.out.lt; omega⟩)
        clear hr9 hg9 hnv9 hrep9 hin9
        unfold termV
        obtain ⟨s0, s1, s2, s3, s4, s5, s6, s7, s8, s9, s10, s11, s12, p0, p1, p2, p3, p4, p5, p6, p7, p8, p9, p10, p11, p12⟩ := cells13 HTD.out.sym
        have hlt9 := HTD.out.lt
        have HSD : Hid (RA ⟨toks, i, j⟩ (.slice al toks.length cl) w rb sb nvD nm #[.string ⟨tx2.toArray⟩, .slice ap rows.length cp, .int .i64 ty.kd, .int .i64 ty.ni, .int .i64 ty.nj, .int .i64 ty.nn, .slice aT lT cT, .int .i64 bd.kd, .int .i64 bd.ni, .int .i64 bd.nj, .int .i64 bd.nn, .slice aD lD cD, .bool true] rows (.slice ap rows.length cp) (((((wD.setCell ⟨sb, 7, none⟩ (.int .i64 bd.kd)).setCell ⟨sb, 8, none⟩ (.int .i64 bd.ni)).setCell ⟨sb, 9, none⟩ (.int .i64 bd.nj)).setCell ⟨sb, 10, none⟩ (.int .i64 bd.nn)).setCell ⟨sb, 11, none⟩ (.slice aD lD cD)) k3) := Lib.hid (((((HTD.out.set 7 (.int .i64 bd.kd)).set 8 (.int .i64 bd.ni)).set 9 (.int .i64 bd.nj)).set 10 (.int .i64 bd.nn)).set 11 (.slice aD lD cD))
        have HKSD : Hid (Kp (sb + 1) Wc (((((wD.setCell ⟨sb, 7, none⟩ (.int .i64 bd.kd)).setCell ⟨sb, 8, none⟩ (.int .i64 bd.ni)).setCell ⟨sb, 9, none⟩ (.int .i64 bd.nj)).setCell ⟨sb, 10, none⟩ (.int .i64 bd.nn)).setCell ⟨sb, 11, none⟩ (.slice aD lD cD))) := Lib.hid (HKD.out.trans (((((Kp.set wD 7 _ (Nat.lt_succ_self sb)).trans (Kp.set _ 8 _ (Nat.lt_succ_self sb))).trans (Kp.set _ 9 _ (Nat.lt_succ_self sb))).trans (Kp.set _ 10 _ (Nat.lt_succ_self sb))).trans (Kp.set _ 11 _ (Nat.lt_succ_self sb))))
        have HVSD : Hid (RepTS (((((wD.setCell ⟨sb, 7, none⟩ (.int .i64 bd.kd)).setCell ⟨sb, 8, none⟩ (.int .i64 bd.ni)).setCell ⟨sb, 9, none⟩ (.int .i64 bd.nj)).setCell ⟨sb, 10, none⟩ (.int .i64 bd.nn)).setCell ⟨sb, 11, none⟩ (.slice aD lD cD)) (fun x => sb + 1 ≤ x) bd.kids (.slice aD lD cD)) := Lib.hid (HVD.out.kp (((((Kp.set wD 7 _ (Nat.lt_succ_self sb)).trans (Kp.set _ 8 _ (Nat.lt_succ_self sb))).trans (Kp.set _ 9 _ (Nat.lt_succ_self sb))).trans (Kp.set _ 10 _ (Nat.lt_succ_self sb))).trans (Kp.set _ 11 _ (Nat.lt_succ_self sb))))
        go_upto_region 23 with fail
        clear s0 s1 s2 s3 s4 s5 s6 s7 s8 s9 s10 s11 s12 p0 p1 p2 p3 p4 p5 p6 p7 p8 p9 p10 p11 p12
        clear hlt9
        generalize (((((wD.setCell ⟨sb, 7, none⟩ (.int .i64 bd.kd)).setCell ⟨sb, 8, none⟩ (.int .i64 bd.ni)).setCell ⟨sb, 9, none⟩ (.int .i64 bd.nj)).setCell ⟨sb, 10, none⟩ (.int .i64 bd.nn)).setCell ⟨sb, 11, none⟩ (.slice aD lD cD)) = Wd at *
        have HPAR3 := Lib.hid (HPAR2.out.kp HKSD.out)
        have HTY3 := Lib.hid (HVST.out.kp HKSD.out)
        go_wp2_with fail
        refine (qwant_ok (E := ⟨toks, i, j⟩) 2 (by decide) HK3.out HSD.out.rq).mono ?_
        rintro e w20 ⟨rfl, ht20⟩
        have HZ9 := Lib.hid (HSD.out.turn ht20)
        have HKZ : Hid (Kp (sb + 1) Wd w20) := Lib.hid (Kp.grown ht20.2 (by have := HSD.out.big; omega))
        have HPARZ := Lib.hid (HPAR3.out.kp HKZ.out)
        have HTYZ := Lib.hid (HTY3.out.kp HKZ.out)
        have HBDZ := Lib.hid (HVSD.out.kp HKZ.out)
        clear ht20
        obtain ⟨_, c0, c1, c2, c3, c4, c5⟩ := HZ9.out.rq.at
        obtain ⟨s0, s1, s2, s3, s4, s5, s6, s7, s8, s9, s10, s11, s12, _⟩ := cells13 HZ9.out.sym
        obtain ⟨r0, r1, r2, r3, r4, r5, r6, r7, r8, r9, r10, r11, r12, g0', g1', g2', g3', g4', g5', g6', g7', g8', g9', g10', g11', g12'⟩ := cells13 HZ9.out.res
        have hlt9 := HZ9.out.lt
        obtain ⟨hg8, hg9⟩ := HZ9.out.big
        have hne1 : ¬ sb = w.heap.size := by omega
        have hne2 : ¬ w.heap.size = sb := by omega
        have hw9 : w.heap.size < w20.heap.size := by omega
        have HAT := Lib.hid (set13_at HZ9.out.res (.string ⟨tx2.toArray⟩) (.slice ap rows.length cp) (.int .i64 ty.kd) (.int .i64 ty.ni) (.int .i64 ty.nj) (.int .i64 ty.nn) (.slice aT lT cT) (.int .i64 bd.kd) (.int .i64 bd.ni) (.int .i64 bd.nj) (.int .i64 bd.nn) (.slice aD lD cD) (.bool true))
        have HFIN : Hid (AtOut w ⟨textAt toks 2, rows.map Prod.fst ++ [], ty, bd, decide (textAt toks 1 = wDef)⟩ (.returned (.tuple #[.agg #[.string ⟨tx2.toArray⟩, .slice ap rows.length cp, .int .i64 ty.kd, .int .i64 ty.ni, .int .i64 ty.nj, .int .i64 ty.nn, .slice aT lT cT, .int .i64 bd.kd, .int .i64 bd.ni, .int .i64 bd.nj, .int .i64 bd.nn, .slice aD lD cD, .bool true], .bool true])) (set13 w20 w.heap.size (.string ⟨tx2.toArray⟩) (.slice ap rows.length cp) (.int .i64 ty.kd) (.int .i64 ty.ni) (.int .i64 ty.nj) (.int .i64 ty.nn) (.slice aT lT cT) (.int .i64 bd.kd) (.int .i64 bd.ni) (.int .i64 bd.nj) (.int .i64 bd.nn) (.slice aD lD cD) (.bool true))) := Lib.hid (by
          have hk : Kp (sb + 1) w20 (set13 w20 w.heap.size (.string ⟨tx2.toArray⟩) (.slice ap rows.length cp) (.int .i64 ty.kd) (.int .i64 ty.ni) (.int .i64 ty.nj) (.int .i64 ty.nn) (.slice aT lT cT) (.int .i64 bd.kd) (.int .i64 bd.ni) (.int .i64 bd.nj) (.int .i64 bd.nn) (.slice aD lD cD) (.bool true)) := Kp.grown (set13_grown _ _ _ _ _ _ _ _ _ _ _ _ _ _ _) (by omega)
          refine ⟨.slice ap rows.length cp, .slice aT lT cT, .slice aD lD cD, ?_, ?_, ?_, ?_, ?_⟩
          · rw [HTX2.out, HDD.out]; rfl
          · rw [List.append_nil]; exact (HPARZ.out.kp hk).rep
          · exact (HTYZ.out.kp hk).rep
          · exact (HBDZ.out.kp hk).rep
          · exact HZ9.out.low.trans (below_of_grown (set13_grown _ _ _ _ _ _ _ _ _ _ _ _ _ _ _) (Nat.le_refl _) HZ9.out.low.size))
        unfold set13 at HAT HFIN
        go_wp2
        obtain ⟨x0, x1, x2, x3, x4, x5, x6, x7, x8, x9, x10, x11, x12, _⟩ := cells13 HAT.out
        have hfin := HFIN.out
        rw [HQ.out.2.2] at hfin
        exact bodyPost_ret (v := .tuple #[.agg #[.string ⟨tx2.toArray⟩, .slice ap rows.length cp, .int .i64 ty.kd, .int .i64 ty.ni, .int .i64 ty.nj, .int .i64 ty.nn, .slice aT lT cT, .int .i64 bd.kd, .int .i64 bd.ni, .int .i64 bd.nj, .int .i64 bd.nn, .slice aD lD cD, .bool true], .bool true]) (by simp [results, Tryd.results7, go_sem, x0, x1, x2, x3, x4, x5, x6, x7, x8, x9, x10, x11, x12]) rfl hfin
      · have hd1 : d = false := by rw [← HDD.out]; exact decide_eq_false hdef
        have HK3 := Lib.hid hk3
        clear hdef hk3
        subst hd1
        obtain ⟨s0, s1, s2, s3, s4, s5, s6, s7, s8, s9, s10, s11, s12, p0, p1, p2, p3, p4, p5, p6, p7, p8, p9, p10, p11, p12⟩ := cells13 HST.out.sym
        go_wp2_with fail
        clear s0 s1 s2 s3 s4 s5 s6 s7 s8 s9 s10 s11 s12 p0 p1 p2 p3 p4 p5 p6 p7 p8 p9 p10 p11 p12
        refine (qwant_ok (E := ⟨toks, i, j⟩) 2 (by decide) HK3.out HST.out.rq).mono ?_
        rintro e w20 ⟨rfl, ht20⟩
        have HZ9 := Lib.hid (HST.out.turn ht20)
        have HKZ : Hid (Kp (sb + 1) Wc w20) := Lib.hid (Kp.grown ht20.2 (by have := HST.out.big; omega))
        have HPARZ := Lib.hid (HPAR2.out.kp HKZ.out)
        have HTYZ := Lib.hid (HVST.out.kp HKZ.out)
        clear ht20
        obtain ⟨_, c0, c1, c2, c3, c4, c5⟩ := HZ9.out.rq.at
        obtain ⟨s0, s1, s2, s3, s4, s5, s6, s7, s8, s9, s10, s11, s12, _⟩ := cells13 HZ9.out.sym
        obtain ⟨r0, r1, r2, r3, r4, r5, r6, r7, r8, r9, r10, r11, r12, g0', g1', g2', g3', g4', g5', g6', g7', g8', g9', g10', g11', g12'⟩ := cells13 HZ9.out.res
        have hlt9 := HZ9.out.lt
        obtain ⟨hg8, hg9⟩ := HZ9.out.big
        have hne1 : ¬ sb = w.heap.size := by omega
        have hne2 : ¬ w.heap.size = sb := by omega
        have hw9 : w.heap.size < w20.heap.size := by omega
        have HAT := Lib.hid (set13_at HZ9.out.res (.string ⟨tx2.toArray⟩) (.slice ap rows.length cp) (.int .i64 ty.kd) (.int .i64 ty.ni) (.int .i64 ty.nj) (.int .i64 ty.nn) (.slice aT lT cT) (.int .i64 0) (.int .i64 0) (.int .i64 0) (.int .i64 0) (.slice none 0 0) (.bool false))
        have HFIN : Hid (AtOut w ⟨textAt toks 2, rows.map Prod.fst ++ [], ty, zeroT, decide (textAt toks 1 = wDef)⟩ (.returned (.tuple #[.agg #[.string ⟨tx2.toArray⟩, .slice ap rows.length cp, .int .i64 ty.kd, .int .i64 ty.ni, .int .i64 ty.nj, .int .i64 ty.nn, .slice aT lT cT, .int .i64 0, .int .i64 0, .int .i64 0, .int .i64 0, .slice none 0 0, .bool false], .bool true])) (set13 w20 w.heap.size (.string ⟨tx2.toArray⟩) (.slice ap rows.length cp) (.int .i64 ty.kd) (.int .i64 ty.ni) (.int .i64 ty.nj) (.int .i64 ty.nn) (.slice aT lT cT) (.int .i64 0) (.int .i64 0) (.int .i64 0) (.int .i64 0) (.slice none 0 0) (.bool false))) := Lib.hid (by
          have hk : Kp (sb + 1) w20 (set13 w20 w.heap.size (.string ⟨tx2.toArray⟩) (.slice ap rows.length cp) (.int .i64 ty.kd) (.int .i64 ty.ni) (.int .i64 ty.nj) (.int .i64 ty.nn) (.slice aT lT cT) (.int .i64 0) (.int .i64 0) (.int .i64 0) (.int .i64 0) (.slice none 0 0) (.bool false)) := Kp.grown (set13_grown _ _ _ _ _ _ _ _ _ _ _ _ _ _ _) (by omega)
          refine ⟨.slice ap rows.length cp, .slice aT lT cT, nilV, ?_, ?_, ?_, ?_, ?_⟩
          · rw [HTX2.out, HDD.out]; rfl
          · rw [List.append_nil]; exact (HPARZ.out.kp hk).rep
          · exact (HTYZ.out.kp hk).rep
          · exact .nil _ _
          · exact HZ9.out.low.trans (below_of_grown (set13_grown _ _ _ _ _ _ _ _ _ _ _ _ _ _ _) (Nat.le_refl _) HZ9.out.low.size))
        unfold set13 at HAT HFIN
        go_wp2
        obtain ⟨x0, x1, x2, x3, x4, x5, x6, x7, x8, x9, x10, x11, x12, _⟩ := cells13 HAT.out
        have hfin := HFIN.out
        rw [HQ.out.2.2] at hfin
        exact bodyPost_ret (v := .tuple #[.agg #[.string ⟨tx2.toArray⟩, .slice ap rows.length cp, .int .i64 ty.kd, .int .i64 ty.ni, .int .i64 ty.nj, .int .i64 ty.nn, .slice aT lT cT, .int .i64 0, .int .i64 0, .int .i64 0, .int .i64 0, .slice none 0 0, .bool false], .bool true]) (by simp [results, Tryd.results7, go_sem, x0, x1, x2, x3, x4, x5, x6, x7, x8, x9, x10, x11, x12]) rfl hfin
    · have HK3 := Lib.hid (And.intro hk3 hke)
      have HPM := Lib.hid hpm
      have hq := HQ.out.2.2
      subst hpsr
      have hsort := params_in (a := rows.map Prod.fst) (b := ts) (t := t) (k := 0) (by rw [hq]; exact HOKP.out.1)
      obtain ⟨htm, hae, hel⟩ := oneM_line hone hsort
      have HTM := Lib.hid htm
      have HAE := Lib.hid (And.intro hae hel)
      have hk1b : ((kindAt toks k : Int) == 1) = true := by simp [hk1]
      have hkl : k < toks.length := kindAt_lt (by omega)
      clear hk1 hk3 hone hke hpm hq hsort htm hae hel HST
      obtain ⟨_, c0, c1, c2, c3, c4, c5⟩ := HA1.out.rq.at
      have f1 := HA1.out.rq.fz 1
      have hbl := HA1.out.rq.lt
      have hlen := HLEN.out
      have HA2 := Lib.hid (HA1.out.step (k + 1) hkl)
      go_wp2_with fail
      clear c0 c1 c2 c3 c4 c5 f1 hbl hk1b
      simp only [Int.natCast_add, Int.natCast_one] at HA2
      generalize (wr.drewN n1).setCell ⟨rb, 1, none⟩ (.int .i64 ((k : Int) + 1)) = Wa at *
      refine (qwant_ok (E := ⟨toks, i, j⟩) 3 (by decide) HK3.out.1 HA2.out.rq).mono ?_
      rintro en w10 ⟨rfl, ht10⟩
      have HA3 := Lib.hid (HA2.out.turn ht10)
      clear ht10
      obtain ⟨nx, hnx⟩ : ∃ nx, textAt toks (k + 1) = nx := ⟨_, rfl⟩
      rw [hnx] at HPM
      rw [show textAt (REnv.mk toks i j).l (k + 1) = nx from hnx]
      clear hnx
      go_wp2_with fail
      refine (qterm_ok (E := ⟨toks, i, j⟩) HNE.out HA3.out.rq HNM41.out HTM.out).mono ?_
      rintro en w11 ⟨a5, l5, c5, nv1, rfl, hr11, hg11, hnv11, hrep11, hin11⟩
      have HA4 := Lib.hid (HA3.out.move hr11 hg11 hnv11)
      have HREP := Lib.hid (And.intro hrep11 hin11)
      have HG11 := Lib.hid hg11.size
      clear hr11 hg11 hnv11 hrep11 hin11
      unfold termV
      have hr13 : rows.length ≤ 1099511627776 := by have h1 := HQ.out.1; omega
      obtain ⟨hif, hi0, hi1, hi2⟩ := HINF.out
      go_wp2_with (at_builtin; go_must (refine wpList_append_lies _ rfl (.tmp 85) (.tmp 88) 22 rfl (sb + 1) 24 it _ 5 56 Tryd.underlying22 hif hi0 hi1 hi2 rfl (by decide) (.slice ap rows.length cp) rows.length (kidCells rows) rfl ?own ⟨w11.heap.size, 0, none⟩ 1 1 [.int .i64 t.kd, .int .i64 t.ni, .int .i64 t.nj, .int .i64 t.nn, .slice a5 l5 c5] rfl rfl ?news ?one (by decide) ?c3 ?c4 ?c5 (w11.heap.size + 1) (by simp) ?_))
      case own => exact (HA4.out.below (below_alloc _ _)).pars
      case news => exact World.news_of_block (cs := #[.int .i64 t.kd, .int .i64 t.ni, .int .i64 t.nj, .int .i64 t.nn, .slice a5 l5 c5]) (t := 24) (fr := (0, 0)) (heap_alloc_new w11 _)
      case one => simp [Value.oneCell']
      case c3 => unfold maxLen; omega
      case c4 => omega
      case c5 => have := HA4.out.lt; simp; omega
      intro g cap w12 hown12 hgrow12 hat12 hlt12
      have HA5 := Lib.hid ((HA4.out.below (below_alloc w11 (.cells #[.int .i64 t.kd, .int .i64 t.ni, .int .i64 t.nj, .int .i64 t.nn, .slice a5 l5 c5] 24))).push (B := w10.heap.size) (fun x hx => (HA3.out.pars.lt x hx).2) HA3.out.lt
        ⟨HREP.out.1.kept (by simp) fun x hx hxl => ⟨Lib.alloc_old _ _ _ hxl, hx⟩, HREP.out.2⟩ hgrow12 (by simpa using hat12) hown12)
      clear hown12 hgrow12 hat12 hlt12 hif hi0 hi1 hi2
      go_wp2_with fail
      refine (qwant_ok (E := ⟨toks, i, j⟩) 2 (by decide) HK3.out.2 HA5.out.rq).mono ?_
      rintro en w13 ⟨rfl, ht13⟩
      have HA6 := Lib.hid (HA5.out.turn ht13)
      clear ht13
      go_wp2_with fail
      have HA7 := Lib.hid (HA6.out.below (below_alloc w13 (.cells #[.string ⟨nx.toArray⟩] 9)))
      refine (qpush_any (names := [nx]) HA7.out.rq (names_one w13 nx) (by have := HNM41.out; simp; omega)).mono ?_
      rintro en w14 ⟨rfl, hnq⟩
      obtain ⟨nv4, h1, h2, h3⟩ := hnq
      have HA8 := Lib.hid (HA7.out.move h1 h2 (.inr h3))
      have HM8 := Lib.hid (measQ_is HA8.out.rq toks.length)
      clear h1 h2 h3
      go_wp2
      go_roundw
      case rel => exact ⟨nv4, nm ++ [nx], rows ++ [(t, .slice a5 l5 c5)], e + 1, f', ts, HA8.out, by have h1 := HQ.out.1; have h2 := HAE.out.1; simp; omega, by simp [HQ.out.2.1], HPM.out, by have := HQ.out.2.2; rw [← this]; simp⟩
      case measure => rw [HM.out, HM8.out]; have h2 := HAE.out.1; have h3 := HAE.out.2; omega
end Go.Proofs.YtfklmcmoackepaaDoor
