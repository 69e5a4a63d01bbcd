/- Walk of the parser's deriv: where it stops before the kids. Walk of the parser's deriv: a rule with a number. -/
import Derived.Test.YtfpiogaakblpeaaDoorParT2
import Derived.Test.YtfpiogaakblpeaaDoorWordW
namespace Go.Proofs.YtfpiogaakblpeaaDoor
open Go.RowKit

/-- the state of a call of deriv that began in w: the reader, the result's block -/
structure PSt (w : World) (b : Nat) (toks : List Tok) (lv : Value) (k en n : Int) (df wf : Nat) (wi : World) : Prop where
  rd : Rd wi b toks lv k en n df wf
  gr : w.grownBy wi (some b)
  res : wi.heap[w.heap.size]? = some (.cells #[.int .i64 0, .int .i64 0, .slice none 0 0] 24 (0, 0))

section
variable {w wi wj : World} {b : Nat} {toks : List Tok} {lv : Value} {k en n k' n' : Int} {df wf : Nat}
theorem PSt.start (h : Rd w b toks lv k en n df wf) : PSt w b toks lv k en n df wf (w.alloc (.cells #[.int .i64 0, .int .i64 0, .slice none 0 0] 24)) :=
  ⟨h.kept (below_alloc _ _), grown_below (below_alloc _ _), new_heap _ _ _⟩
theorem PSt.next (h : PSt w b toks lv k en n df wf wi) (hb : b < w.heap.size) (rd : Rd wj b toks lv k' en n' df wf) (g : wi.grownBy wj (some b)) : PSt w b toks lv k' en n' df wf wj :=
  ⟨rd, grown_trans h.gr g, by rw [g.block _ (Array.getElem?_eq_some_iff.1 h.res).1 (by simp; omega)]; exact h.res⟩
theorem PSt.drewN (h : PSt w b toks lv k en n df wf wi) (m : Nat) : PSt w b toks lv k en n df wf (wi.drewN m) :=
  ⟨h.rd.drewN m, grown_drewN h.gr m, h.res⟩
theorem PSt.below (h : PSt w b toks lv k en n df wf wi) (hb : b < w.heap.size) (g : Below wi.heap.size wi wj) : PSt w b toks lv k en n df wf wj := h.next hb (h.rd.kept g) (grown_below g)
end

def errOf : Why → Int
  | .parse => 2
  | _ => 4
def wordOf : Why → ByteArray
  | .parse => ⟨#[]⟩
  | .deep => ⟨#[100, 101, 101, 112]⟩
  | .nodes => ⟨#[110, 111, 100, 101, 115]⟩

def BadPost (w : World) (b : Nat) (toks : List Tok) (en : Int) (k : Nat) (y : Why) (e : Ending) (w' : World) : Prop :=
  e = .panicked (faultV (errOf y) (placeT toks k en) (wordOf y)) ∧ w.grownBy w' (some b)

section
variable (b : Nat) (toks : List Tok) (lv : Value) (k : Nat) (en : Int) (n : Nat) (df wf : Nat) (deep : Nat) (w : World)

set_option maxHeartbeats 1000000 in
set_option maxRecDepth 100000 in
theorem deriv_bad1 (h : Rd w b toks lv k en n df wf) (h1 : kindAt toks k ≠ 1) :
    Calls Tryd.prog 63 #[.pointer (some ⟨b, 0, none⟩), .int .i64 deep] w (BadPost w b toks en k .parse) := by
  have PS0 := Lib.hid (PSt.start h)
  have H1 := Lib.hid h1
  obtain ⟨c0, c1, c2, c3, c4, c5⟩ := PS0.out.rd.at
  clear h h1
  go_enter Tryd.func63, Tryd.ntmps63
  go_wp2_with fail
  refine (take_bad b toks lv k en n df wf 1 (by decide) _ PS0.out.rd H1.out).mono ?_
  rintro e w1 ⟨rfl, m, rfl⟩
  go_wp2
  exact ⟨rfl, rfl, grown_drewN PS0.out.gr m⟩

set_option maxHeartbeats 1000000 in
set_option maxRecDepth 100000 in
theorem deriv_bad2 (h : Rd w b toks lv k en n df wf) (h1 : kindAt toks k = 1) (h2 : withinB deep df = false) :
    Calls Tryd.prog 63 #[.pointer (some ⟨b, 0, none⟩), .int .i64 deep] w (BadPost w b toks en k .deep) := by
  have PS0 := Lib.hid (PSt.start h)
  have hb := h.lt
  have H1 := Lib.hid h1
  obtain ⟨c0, c1, c2, c3, c4, c5⟩ := PS0.out.rd.at
  clear h h1
  go_enter Tryd.func63, Tryd.ntmps63
  go_wp2_with fail
  refine (take_ok b toks lv k en n df wf 1 (by decide) _ PS0.out.rd H1.out).mono ?_
  rintro e w1 ⟨rfl, hrd1, hg1, hz1⟩
  have PS1 := Lib.hid (PS0.out.next hb hrd1 hg1)
  clear hrd1 hg1 hz1 c0 c1 c2 c3 c4 c5
  obtain ⟨c0, c1, c2, c3, c4, c5⟩ := PS1.out.rd.at
  go_wp2_with fail
  refine (within_any _ _ _).mono ?_
  rintro e w1' ⟨rfl, rfl⟩
  go_wp2_with fail
  refine (stop_any b toks lv k _ en n df wf 4 _ _ PS1.out.rd).mono ?_
  rintro e w2 ⟨rfl, m2, rfl⟩
  go_wp2
  exact ⟨rfl, rfl, grown_drewN PS1.out.gr m2⟩

set_option maxHeartbeats 1000000 in
set_option maxRecDepth 100000 in
theorem deriv_bad3 (h : Rd w b toks lv k en n df wf) (h1 : kindAt toks k = 1) (h2 : withinB deep df = true) (h3 : withinB ((n : Int) + 1) wf = false) (hn : n ≤ 1099511627776) :
    Calls Tryd.prog 63 #[.pointer (some ⟨b, 0, none⟩), .int .i64 deep] w (BadPost w b toks en k .nodes) := by
  have PS0 := Lib.hid (PSt.start h)
  have hb := h.lt
  have H1 := Lib.hid h1
  obtain ⟨c0, c1, c2, c3, c4, c5⟩ := PS0.out.rd.at
  clear h h1
  go_enter Tryd.func63, Tryd.ntmps63
  go_wp2_with fail
  refine (take_ok b toks lv k en n df wf 1 (by decide) _ PS0.out.rd H1.out).mono ?_
  rintro e w1 ⟨rfl, hrd1, hg1, hz1⟩
  have PS1 := Lib.hid (PS0.out.next hb hrd1 hg1)
  clear hrd1 hg1 hz1 c0 c1 c2 c3 c4 c5
  obtain ⟨c0, c1, c2, c3, c4, c5⟩ := PS1.out.rd.at
  have f3 := PS1.out.rd.fz 3
  have hb1 := PS1.out.rd.lt
  go_wp2_with fail
  refine (within_any _ _ _).mono ?_
  rintro e w1' ⟨rfl, rfl⟩
  go_wp2_with fail
  go_quiet ((go_at_call 73; exact quietR (within_any _ _ _)))
  have PS2 := Lib.hid ((PS1.out.next hb (PS1.out.rd.set3 ((n : Int) + 1)) (grown_set (grown_refl _ _) 3 _)).drewN nq)
  go_wp2_with fail
  refine (stop_any b toks lv k _ en _ df wf 4 _ _ PS2.out.rd).mono ?_
  rintro e w2 ⟨rfl, m2, rfl⟩
  go_wp2
  exact ⟨rfl, rfl, grown_drewN (grown_set PS1.out.gr 3 _) _⟩

theorem in64_nat {n : Nat} (h : n ≤ 1000000) : In64 (n : Int) := ⟨by omega, by omega⟩

set_option maxHeartbeats 1000000 in
set_option maxRecDepth 100000 in
theorem deriv_bad4 (h : Rd w b toks lv k en n df wf) (h1 : kindAt toks k = 1) (h2 : withinB deep df = true) (h3 : withinB ((n : Int) + 1) wf = true) (hn : n ≤ 1099511627776) (hl : toks.length ≤ 1099511627776)
    (h4 : kindAt toks (k + 1) ≠ 3 ∨ ruleI (textAt toks (k + 1)) = 0) :
    Calls Tryd.prog 63 #[.pointer (some ⟨b, 0, none⟩), .int .i64 deep] w (BadPost w b toks en (k + 1) .parse) := by
  have PS0 := Lib.hid (PSt.start h)
  have hb := h.lt
  have H1 := Lib.hid h1
  have hk := kindAt_lt (l := toks) (k := k) (by omega)
  obtain ⟨c0, c1, c2, c3, c4, c5⟩ := PS0.out.rd.at
  clear h h1
  have H4 := Lib.hid h4
  clear h4
  go_enter Tryd.func63, Tryd.ntmps63
  go_wp2_with fail
  refine (take_ok b toks lv k en n df wf 1 (by decide) _ PS0.out.rd H1.out).mono ?_
  rintro e w1 ⟨rfl, hrd1, hg1, hz1⟩
  have PS1 := Lib.hid (PS0.out.next hb hrd1 hg1)
  clear hrd1 hg1 hz1 c0 c1 c2 c3 c4 c5
  obtain ⟨c0, c1, c2, c3, c4, c5⟩ := PS1.out.rd.at
  have f3 := PS1.out.rd.fz 3
  have hb1 := PS1.out.rd.lt
  go_wp2_with fail
  refine (within_any _ _ _).mono ?_
  rintro e w1' ⟨rfl, rfl⟩
  go_wp2_with fail
  go_quiet ((go_at_call 73; exact quietR (within_any _ _ _)))
  have PS2 := Lib.hid ((PS1.out.next hb (PS1.out.rd.set3 ((n : Int) + 1)) (grown_set (grown_refl _ _) 3 _)).drewN nq)
  generalize hw2 : (w1.setCell ⟨b, 3, none⟩ (.int .i64 ((n : Int) + 1))).drewN nq = w2 at PS2
  clear hw2 c0 c1 c2 c3 c4 c5 f3 hb1 PS1
  go_wp2_with fail
  by_cases h5 : kindAt toks (k + 1) ≠ 3
  · refine (take_bad b toks lv (k + 1) en _ df wf 3 (by decide) _ PS2.out.rd h5).mono ?_
    rintro e w3 ⟨rfl, m, rfl⟩
    go_wp2
    exact ⟨rfl, rfl, grown_drewN PS2.out.gr m⟩
  · have h6 : kindAt toks (k + 1) = 3 := by omega
    have h7 := H4.out.resolve_left h5
    have H7 := Lib.hid h7
    have H6 := Lib.hid h6
    clear h5 h6 h7
    refine (take_ok b toks lv (k + 1) en _ df wf 3 (by decide) _ PS2.out.rd H6.out).mono ?_
    rintro e w3 ⟨rfl, hrd3, hg3, hz3⟩
    have PS3 := Lib.hid (PS2.out.next hb hrd3 hg3)
    clear hrd3 hg3 hz3
    go_wp2_with fail
    refine (rule_any _ _).mono ?_
    rintro e w4 ⟨rfl, hb4⟩
    have PS4 := Lib.hid (PS3.out.below hb hb4)
    clear hb4
    rw [H7.out]
    have PS5 := Lib.hid (PS4.out.below hb (below_alloc w4 (.cells #[.int .i64 0, .int .i64 0, .slice none 0 0] 24)))
    obtain ⟨c0, c1, c2, c3, c4, c5⟩ := PS5.out.rd.at
    go_wp2_with fail
    refine (stop_any b toks lv (k + 1) _ en _ df wf 2 _ _ PS5.out.rd).mono ?_
    rintro e w6 ⟨rfl, m2, rfl⟩
    go_wp2
    exact ⟨rfl, rfl, grown_drewN PS5.out.gr _⟩
end
end Go.Proofs.YtfpiogaakblpeaaDoor

namespace Go.Proofs.YtfpiogaakblpeaaDoor
open Go.RowKit

/-- as RepK, all its rows in blocks of S -/
inductive RepS (w : World) (S : Nat → Prop) : List DT → Value → Prop
  | nil (a : Option Addr) (c : Nat) : RepS w S [] (.slice a 0 c)
  | row (b o c : Nat) (ks : List DT) (kv : Nat → Value) (hn : ks.length ≤ maxLen) (hb : b < w.heap.size) (hS : S b)
      (hc : ∀ j r i l, ks[j]? = some (.node r i l) → w.cell? ⟨b, o + j * 3, none⟩ = some (.int .i64 r) ∧ w.cell? ⟨b, o + j * 3 + 1, none⟩ = some (.int .i64 i) ∧ w.cell? ⟨b, o + j * 3 + 2, none⟩ = some (kv j) ∧ In64 r ∧ In64 i)
      (hk : ∀ j r i l, ks[j]? = some (.node r i l) → RepS w S l (kv j)) :
      RepS w S ks (.slice (some ⟨b, o, none⟩) ks.length c)
theorem RepS.rep {w : World} {S : Nat → Prop} {ks : List DT} {v : Value} (h : RepS w S ks v) : RepK w ks v := by
  induction h with
  | nil a c => exact .nil a c
  | row b o c ks kv hn hb hS hc _ ih => exact .row b o c ks kv hn hb hc ih
theorem RepS.kept {w w' : World} {S S' : Nat → Prop} (hsz : w.heap.size ≤ w'.heap.size) (hS : ∀ x, S x → x < w.heap.size → w'.heap[x]? = w.heap[x]? ∧ S' x) {ks : List DT} {v : Value} (h : RepS w S ks v) : RepS w' S' ks v := by
  induction h with
  | nil a c => exact .nil a c
  | row b o c ks kv hn hb hSb hc _ ih =>
    have hh := hS b hSb hb
    have hcell : ∀ off, w'.cell? ⟨b, off, none⟩ = w.cell? ⟨b, off, none⟩ := fun off => by simp only [World.cell?, hh.1]
    refine .row b o c ks kv hn (Nat.lt_of_lt_of_le hb hsz) hh.2 (fun j r i l h => ?_) ih
    rw [hcell, hcell, hcell]
    exact hc j r i l h
theorem RepS.form {w : World} {S : Nat → Prop} {ks : List DT} {v : Value} (h : RepS w S ks v) : ks.length ≤ maxLen ∧ ∃ a c, v = .slice a ks.length c := h.rep.form

def OkPost (w : World) (b : Nat) (toks : List Tok) (lv : Value) (en : Int) (df wf : Nat) (d : DT) (k' n' : Nat) (e : Ending) (w' : World) : Prop :=
  ∃ v, e = .returned (derivV d.rule d.idx v) ∧ RepS w' (fun x => w.heap.size ≤ x) d.kids v ∧ In64 d.rule ∧ In64 d.idx ∧ Rd w' b toks lv k' en n' df wf ∧ w.grownBy w' (some b)

theorem tab_grown {w0 w wi : World} {b : Nat} (ht : Tab w0) (hB : Below w0.heap.size w0 w) (h0 : w0.heap.size ≤ b) (g : w.grownBy wi (some b)) : Tab wi :=
  ht.below (hB.trans (below_of_grown g h0 hB.size))

/-- the result laid into its block -/
theorem ok_end {w w9 : World} {b : Nat} {toks : List Tok} {lv : Value} {k0 n0 k en n : Int} {df wf : Nat} (h0 : Rd w b toks lv k0 en n0 df wf) (h : PSt w b toks lv k en n df wf w9) (r i : Int) (v : Value) (ks : List DT) (hrep : RepS w9 (fun x => w.heap.size < x) ks v) :
    ∃ W, ((w9.setCell ⟨w.heap.size, 0, none⟩ (.int .i64 r)).setCell ⟨w.heap.size, 1, none⟩ (.int .i64 i)).setCell ⟨w.heap.size, 2, none⟩ v = W ∧
      W.heap[w.heap.size]? = some (.cells #[.int .i64 r, .int .i64 i, v] 24 (0, 0)) ∧ RepS W (fun x => w.heap.size ≤ x) ks v ∧ Rd W b toks lv k en n df wf ∧ w.grownBy W (some b) := by
  refine ⟨_, rfl, ?_, ?_, ?_, ?_⟩
  · simp [World.setCell, Array.getElem?_modify, h.res]
  all_goals
    generalize hW : ((w9.setCell ⟨w.heap.size, 0, none⟩ (.int .i64 r)).setCell ⟨w.heap.size, 1, none⟩ (.int .i64 i)).setCell ⟨w.heap.size, 2, none⟩ v = W
    have hx : ∀ x, x ≠ w.heap.size → W.heap[x]? = w9.heap[x]? := fun x hx => by
      rw [← hW, Below.heap_setCell _ _ _ _ hx, Below.heap_setCell _ _ _ _ hx, Below.heap_setCell _ _ _ _ hx]
    have hz : W.heap.size = w9.heap.size := by rw [← hW]; simp [World.setCell]
    have hg : w.grownBy W (some b) := ⟨by rw [← hW]; exact h.gr.os, by rw [← hW]; exact h.gr.tape, by rw [← hW]; exact h.gr.output, by rw [hz]; exact h.gr.size, fun x hlt hne => by rw [hx x (by omega)]; exact h.gr.block x hlt hne⟩
  · exact hrep.kept (by omega) fun x hS _ => ⟨hx x (by omega), by omega⟩
  · exact ⟨by rw [hx b (by have := h0.lt; omega)]; exact h.rd.cells, h0.has.grown hg h0.far, h0.far⟩
  · exact hg

section
variable (b : Nat) (toks : List Tok) (lv : Value) (k : Nat) (en : Int) (n : Nat) (df wf : Nat) (deep : Nat) (w w0 : World)

set_option maxHeartbeats 2000000 in
set_option maxRecDepth 100000 in
theorem deriv_num (h : Rd w b toks lv k en n df wf) (ht : Tab w0) (hw0 : w0.heap.size ≤ b) (hB : Below w0.heap.size w0 w) (h1 : kindAt toks k = 1) (h2 : withinB deep df = true) (h3 : withinB ((n : Int) + 1) wf = true) (hn : n ≤ 1099511627776) (hl : toks.length ≤ 1099511627776) (htx : ∀ j, (textAt toks j).length ≤ 1099511627776)
    (h4 : kindAt toks (k + 1) = 3) (rr : Nat) (hrr : ruleI (textAt toks (k + 1)) = rr) (h5 : rr = 1 ∨ rr = 2) :
    (kindAt toks (k + 2) ≠ 4 → Calls Tryd.prog 63 #[.pointer (some ⟨b, 0, none⟩), .int .i64 deep] w (BadPost w b toks en (k + 2) .parse)) ∧
    (kindAt toks (k + 2) = 4 → kindAt toks (k + 3) ≠ 2 → Calls Tryd.prog 63 #[.pointer (some ⟨b, 0, none⟩), .int .i64 deep] w (BadPost w b toks en (k + 3) .parse)) ∧
    (kindAt toks (k + 2) = 4 → kindAt toks (k + 3) = 2 → Calls Tryd.prog 63 #[.pointer (some ⟨b, 0, none⟩), .int .i64 deep] w (OkPost w b toks lv en df wf (.node rr ((getN (textAt toks (k + 2))).getD 0) []) (k + 4) (n + 1))) := by
  have PS0 := Lib.hid (PSt.start h)
  have HR0 := Lib.hid h
  have hb := h.lt
  have H1 := Lib.hid h1
  have hk := kindAt_lt (l := toks) (k := k) (by omega)
  have H4 := Lib.hid h4
  have HRR := Lib.hid hrr
  have HT := Lib.hid ht
  have HB := Lib.hid hB
  have HTX := Lib.hid htx
  have hcs : ((rr : Int) == 1) = true ∨ ((rr : Int) == 1) = false ∧ ((rr : Int) == 2) = true := by
    rcases h5 with h | h
    · exact .inl (by simp [h])
    · exact .inr ⟨by simp [h], by simp [h]⟩
  have HK0 : Hid (kidsI rr = 0) := Lib.hid (by rcases h5 with h | h <;> subst h <;> decide)
  have HI : Hid (In64 (rr : Int)) := Lib.hid (in64_nat (by omega))
  have HIX : Hid (In64 (((getN (textAt toks (k + 2))).getD 0 : Nat) : Int)) := Lib.hid (in64_nat (by
    cases hq : getN (textAt toks (k + 2)) with
    | none => simp
    | some x =>
      unfold getN at hq
      split at hq
      · simp at hq
      · split at hq
        · split at hq
          · simp at hq
          · rename_i h7
            simp only [Option.some.injEq] at hq
            simp only [Option.getD_some]
            have : ¬ 1000000 < valL (textAt toks (k + 2)) := fun h => h7 (.inl h)
            omega
        · simp at hq))
  obtain ⟨c0, c1, c2, c3, c4, c5⟩ := PS0.out.rd.at
  clear h h1 h4 hrr ht hB htx h5
  refine ⟨fun h6 => ?_, fun h6 h7 => ?_, fun h6 h7 => ?_⟩
  all_goals
    have H6 := Lib.hid h6
    clear h6
    (try have H7 := Lib.hid h7)
    (try clear h7)
    rcases hcs with hr1 | ⟨hr1, hr2⟩
    all_goals
      go_enter Tryd.func63, Tryd.ntmps63
      go_wp2_with fail
      refine (take_ok b toks lv k en n df wf 1 (by decide) _ PS0.out.rd H1.out).mono ?_
      rintro e w1 ⟨rfl, hrd1, hg1, hz1⟩
      have PS1 := Lib.hid (PS0.out.next hb hrd1 hg1)
      clear hrd1 hg1 hz1 c0 c1 c2 c3 c4 c5
      obtain ⟨c0, c1, c2, c3, c4, c5⟩ := PS1.out.rd.at
      have f3 := PS1.out.rd.fz 3
      have hb1 := PS1.out.rd.lt
      go_wp2_with fail
      refine (within_any _ _ _).mono ?_
      rintro e w1' ⟨rfl, rfl⟩
      go_wp2_with fail
      go_quiet ((go_at_call 73; exact quietR (within_any _ _ _)))
      have PS2 := Lib.hid ((PS1.out.next hb (PS1.out.rd.set3 ((n : Int) + 1)) (grown_set (grown_refl _ _) 3 _)).drewN nq)
      generalize hw2 : (w1.setCell ⟨b, 3, none⟩ (.int .i64 ((n : Int) + 1))).drewN nq = w2 at PS2
      clear hw2 c0 c1 c2 c3 c4 c5 f3 hb1 PS1
      go_wp2_with fail
      refine (take_ok b toks lv (k + 1) en _ df wf 3 (by decide) _ PS2.out.rd H4.out).mono ?_
      rintro e w3 ⟨rfl, hrd3, hg3, hz3⟩
      have PS3 := Lib.hid (PS2.out.next hb hrd3 hg3)
      clear hrd3 hg3 hz3
      go_wp2_with fail
      refine (rule_any _ _).mono ?_
      rintro e w4 ⟨rfl, hb4⟩
      have PS4 := Lib.hid (PS3.out.below hb hb4)
      clear hb4
      have hru : ruleI (ByteArray.mk (textAt toks (k + 1)).toArray).data.toList = rr := HRR.out
      rw [hru]
      clear hru
      have PS5 := Lib.hid (PS4.out.below hb (below_alloc w4 (.cells #[.int .i64 rr, .int .i64 0, .slice none 0 0] 24)))
      have hbw4 : b < w4.heap.size := PS4.out.rd.lt
      have hrw4 : w.heap.size < w4.heap.size := (Array.getElem?_eq_some_iff.1 PS4.out.res).1
      have hrz : ((rr : Int) == 0) = false := by
        first
          | (have := of_decide_eq_true (p := (rr : Int) = 1) (by simpa using hr1); simp; omega)
          | (have := of_decide_eq_true (p := (rr : Int) = 2) (by simpa using hr2); simp; omega)
      go_wp2_with fail
  · refine (take_bad b toks lv (k + 2) en _ df wf 4 (by decide) _ PS5.out.rd H6.out).mono ?_
    rintro e w6 ⟨rfl, m, rfl⟩
    go_wp2
    exact ⟨rfl, rfl, grown_drewN PS5.out.gr m⟩
  · refine (take_bad b toks lv (k + 2) en _ df wf 4 (by decide) _ PS5.out.rd H6.out).mono ?_
    rintro e w6 ⟨rfl, m, rfl⟩
    go_wp2
    exact ⟨rfl, rfl, grown_drewN PS5.out.gr m⟩
  all_goals
    refine (take_ok b toks lv (k + 2) en _ df wf 4 (by decide) _ PS5.out.rd H6.out).mono ?_
    rintro e w6 ⟨rfl, hrd6, hg6, hz6⟩
    have hdx6 : w6.heap[w4.heap.size]? = some (.cells #[.int .i64 rr, .int .i64 0, .slice none 0 0] 24 (0, 0)) := by
      rw [hg6.block _ (by simp) (by simp; omega)]; exact new_heap _ _ _
    have PS6 := Lib.hid (PS5.out.next hb hrd6 hg6)
    have HG46 : Hid (w4.grownBy w6 (some b)) := Lib.hid (grown_trans (grown_below (below_alloc w4 _)) hg6)
    have HDX6 := Lib.hid hdx6
    clear hrd6 hg6 hz6 hdx6
    go_wp2_with fail
    refine (get_any _ _ (by have := HTX.out (k + 2); unfold maxLen; show (textAt toks (k + 2)).toArray.size ≤ _; simp; omega) (tab_grown HT.out HB.out hw0 PS6.out.gr)).mono ?_
    rintro e w7 ⟨rfl, hb7⟩
    have hdx7 : w7.heap[w4.heap.size]? = some (.cells #[.int .i64 rr, .int .i64 0, .slice none 0 0] 24 (0, 0)) := by
      rw [hb7.block _ (Array.getElem?_eq_some_iff.1 HDX6.out).1]; exact HDX6.out
    have PS7 := Lib.hid (PS6.out.below hb hb7)
    have HG47 : Hid (w4.grownBy w7 (some b)) := Lib.hid (grown_trans HG46.out (grown_below hb7))
    have HDX7 := Lib.hid hdx7
    have d0 : w7.cell? ⟨w4.heap.size, 0, none⟩ = some (.int .i64 rr) := by simp [World.cell?, hdx7]
    have d1 : w7.cell? ⟨w4.heap.size, 1, none⟩ = some (.int .i64 0) := by simp [World.cell?, hdx7]
    have d2 : w7.cell? ⟨w4.heap.size, 2, none⟩ = some (.slice none 0 0) := by simp [World.cell?, hdx7]
    have f1 : w7.frozen? ⟨w4.heap.size, 1, none⟩ = false := by simp [World.frozen?, hdx7]
    have hlt7 := (Array.getElem?_eq_some_iff.1 hdx7).1
    clear hb7 hdx7
    unfold getVal
    generalize hgv : (getN (ByteArray.mk (textAt toks (k + 2)).toArray).data.toList) = gv
    have HGV : Hid (getN (textAt toks (k + 2)) = gv) := Lib.hid hgv
    clear hgv
    go_wp2_with fail
    have hdx8 : (w7.setCell ⟨w4.heap.size, 1, none⟩ (.int .i64 ((gv.getD 0 : Nat) : Int))).heap[w4.heap.size]? = some (.cells #[.int .i64 rr, .int .i64 ((gv.getD 0 : Nat) : Int), .slice none 0 0] 24 (0, 0)) := by
      simp [World.setCell, Array.getElem?_modify, HDX7.out]
    have hb78 : Below w4.heap.size w7 (w7.setCell ⟨w4.heap.size, 1, none⟩ (.int .i64 ((gv.getD 0 : Nat) : Int))) := (Below.refl w4.heap.size w7).setCell (p := ⟨w4.heap.size, 1, none⟩) (Nat.le_refl _) _
    have hg48 : w4.grownBy (w7.setCell ⟨w4.heap.size, 1, none⟩ (.int .i64 ((gv.getD 0 : Nat) : Int))) (some b) :=
      ⟨HG47.out.os, HG47.out.tape, HG47.out.output, Nat.le_trans HG47.out.size hb78.size, fun x hx hxb => (hb78.block x hx).trans (HG47.out.block x hx hxb)⟩
    have hrd8 : Rd (w7.setCell ⟨w4.heap.size, 1, none⟩ (.int .i64 ((gv.getD 0 : Nat) : Int))) b toks lv (((k + 2 : Nat) : Int) + 1) en ((n : Int) + 1) df wf :=
      ⟨by rw [hb78.block _ hbw4]; exact PS7.out.rd.cells, PS4.out.rd.has.grown hg48 PS4.out.rd.far, PS7.out.rd.far⟩
    have PS8 := Lib.hid (PS4.out.next hb hrd8 hg48)
    have HDX8 := Lib.hid hdx8
    clear hrd8 hg48 hb78 hdx8
    refine (kids_any _ _).mono ?_
    rintro e w8 ⟨rfl, rfl⟩
    rw [HK0.out]
    generalize w7.setCell ⟨w4.heap.size, 1, none⟩ (.int .i64 ((gv.getD 0 : Nat) : Int)) = w8 at PS8 HDX8
    clear d0 d1 d2 f1
    go_wp2_with fail
    go_loop [75] (fun i => i = .int .i64 0) (fun _ => 0)
    case atStart => exact rfl
    case round =>
      subst hrel
      go_wp2_with fail
      first
        | (refine (take_bad b toks lv (k + 3) en _ df wf 2 (by decide) _ PS8.out.rd H7.out).mono ?_
           rintro e w9 ⟨rfl, m, rfl⟩
           go_wp2
           exact ⟨rfl, rfl, grown_drewN PS8.out.gr m⟩)
        | (refine (take_ok b toks lv (k + 3) en _ df wf 2 (by decide) _ PS8.out.rd H7.out).mono ?_
           rintro e w9 ⟨rfl, hrd9, hg9, hz9⟩
           have hdx9 : w9.heap[w4.heap.size]? = some (.cells #[.int .i64 rr, .int .i64 ((gv.getD 0 : Nat) : Int), .slice none 0 0] 24 (0, 0)) := by
             rw [hg9.block _ (Array.getElem?_eq_some_iff.1 HDX8.out).1 (by simp; omega)]; exact HDX8.out
           have PS9 := Lib.hid (PS8.out.next hb hrd9 hg9)
           have d0 : w9.cell? ⟨w4.heap.size, 0, none⟩ = some (.int .i64 rr) := by simp [World.cell?, hdx9]
           have d1 : w9.cell? ⟨w4.heap.size, 1, none⟩ = some (.int .i64 ((gv.getD 0 : Nat) : Int)) := by simp [World.cell?, hdx9]
           have d2 : w9.cell? ⟨w4.heap.size, 2, none⟩ = some (.slice none 0 0) := by simp [World.cell?, hdx9]
           have r0 : w9.cell? ⟨w.heap.size, 0, none⟩ = some (.int .i64 0) := by simp [World.cell?, PS9.out.res]
           have r1 : w9.cell? ⟨w.heap.size, 1, none⟩ = some (.int .i64 0) := by simp [World.cell?, PS9.out.res]
           have r2 : w9.cell? ⟨w.heap.size, 2, none⟩ = some (.slice none 0 0) := by simp [World.cell?, PS9.out.res]
           have g0 : w9.frozen? ⟨w.heap.size, 0, none⟩ = false := by simp [World.frozen?, PS9.out.res]
           have g1 : w9.frozen? ⟨w.heap.size, 1, none⟩ = false := by simp [World.frozen?, PS9.out.res]
           have g2 : w9.frozen? ⟨w.heap.size, 2, none⟩ = false := by simp [World.frozen?, PS9.out.res]
           have hlt9 := (Array.getElem?_eq_some_iff.1 PS9.out.res).1
           clear hrd9 hg9 hz9 hdx9
           go_wp2
           obtain ⟨W, hW, hWc, hrep, hrdW, hgW⟩ := ok_end HR0.out PS9.out rr ((gv.getD 0 : Nat) : Int) (.slice none 0 0) [] (.nil _ _)
           rw [hW]
           have e0 : W.cell? ⟨w.heap.size, 0, none⟩ = some (.int .i64 rr) := by simp [World.cell?, hWc]
           have e1 : W.cell? ⟨w.heap.size, 1, none⟩ = some (.int .i64 ((gv.getD 0 : Nat) : Int)) := by simp [World.cell?, hWc]
           have e2 : W.cell? ⟨w.heap.size, 2, none⟩ = some (.slice none 0 0) := by simp [World.cell?, hWc]
           have HPOST : Hid (OkPost w b toks lv en df wf (.node rr ((getN (textAt toks (k + 2))).getD 0) []) (k + 4) (n + 1) (.returned (derivV rr ((gv.getD 0 : Nat) : Int) (.slice none 0 0))) W) := Lib.hid (by
             refine ⟨.slice none 0 0, ?_, hrep, HI.out, HIX.out, ?_, hgW⟩
             · rw [HGV.out]; rfl
             · have := hrdW
               simpa [Int.add_assoc] using this)
           clear hW hWc hrep hrdW hgW
           exact bodyPost_ret (v := .agg #[.int .i64 rr, .int .i64 ((gv.getD 0 : Nat) : Int), .slice none 0 0]) (by simp [results, Tryd.results63, go_sem, e0, e1, e2]) rfl HPOST.out)
end
end Go.Proofs.YtfpiogaakblpeaaDoor
