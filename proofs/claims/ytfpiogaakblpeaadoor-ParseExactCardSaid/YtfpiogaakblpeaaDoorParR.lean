/- Walk of parse.File: a text that is lexed and not read. A text that is cut at the lexer's first fault has the same tokens and no fault. Walk of parse.File: a text that the lexer stops in. parse.File at every text: what wholeM tells. -/
import Derived.Test.YtfpiogaakblpeaaDoorParO
import Derived.Test.YtfpiogaakblpeaaDoorLexP
namespace Go.Proofs.YtfpiogaakblpeaaDoor
open Go.RowKit

theorem file_any (b : Nat) (toks : List Tok) (lv : Value) (en : Int) (df wf : Nat) (w w0 : World) (h : Rd w b toks lv ((0 : Nat) : Int) en ((0 : Nat) : Int) df wf) (ht : Tab w0) (hw0 : w0.heap.size ≤ b) (hB : Below w0.heap.size w0 w) (hl : toks.length ≤ 1099511627776) (htx : ∀ j, (textAt toks j).length ≤ 1099511627776) :
    Calls Tryd.prog 41 #[.pointer (some ⟨b, 0, none⟩)] w (ResFile w b toks lv en df wf (fileM ⟨toks, fun m => withinB m df, fun m => withinB m wf⟩)) := by
  have hh := file_head b toks lv en df wf w h
  unfold fileM
  by_cases h1 : kindAt toks 0 = 1
  · rw [if_neg (by dsimp only; omega)]
    by_cases h2 : kindAt toks 1 ≠ 3 ∨ textAt toks 1 ≠ wordFile
    · rw [if_pos h2]
      exact hh.2.1 h1 h2
    · rw [if_neg h2]
      have h3 : kindAt toks 1 = 3 := Classical.byContradiction fun h => h2 (.inl h)
      have h4 : textAt toks 1 = wordFile := Classical.byContradiction fun h => h2 (.inr h)
      by_cases h5 : kindAt toks 2 = 1
      · rw [if_neg (by dsimp only; omega)]
        exact file_tail b toks lv en df wf w w0 h ht hw0 hB hl htx h1 h3 h4 h5
      · rw [if_pos h5]
        exact hh.2.2 h1 h3 h4 h5
  · rw [if_pos h1]
    exact hh.1 h1

def FileBad (w : World) (e0 pl : Int) (word : ByteArray) (e : Ending) (w' : World) : Prop :=
  e = .returned (.tuple #[fileV (.slice none 0 0) 0 0 (.slice none 0 0), .int .i64 e0, .int .i64 pl, .string word]) ∧ Below w.heap.size w w'

set_option maxHeartbeats 1600000 in
set_option maxRecDepth 100000 in
theorem fileBad_any (s : ByteArray) (df wf : Nat) (w : World) (ht : Tab w) (hs : s.size ≤ 1099511627776) (toks : List Tok) (hl : lexL s.data.toList = (toks, none)) (k : Nat) (y : Why)
    (hf : fileM ⟨toks, fun m => withinB m df, fun m => withinB m wf⟩ = .bad k y) :
    Calls Tryd.prog 21 #[.string s, .float .f64 df, .float .f64 wf] w (FileBad w (errOf y) (placeT toks k s.size) (wordOf y)) := by
  have hmf : ∀ (fn : Fn) (first cap : Array Value) (w : World), (Instr.makeFunc fn first cap).run Tryd.prog w = .ok (.func fn first cap) w := fun _ _ _ _ => rfl
  have hrm := hf
  have hlen := lexL_length s.data.toList
  rw [hl] at hlen
  have hlen2 : toks.length ≤ 1099511627776 := by have e : s.data.toList.length = s.size := by simp
                                                 dsimp only at hlen; omega
  have HTX : Hid (∀ j, (textAt toks j).length ≤ 1099511627776) := Lib.hid (fun j => Nat.le_trans (textAt_le s toks hl j) hs)
  have HT := Lib.hid ht
  have HS := Lib.hid hs
  have HL := Lib.hid hl
  have HRM := Lib.hid hrm
  have HO := Lib.hid (openW_facts w s.size df wf)
  clear ht hl hf hrm hlen
  go_enter_defers Tryd.func21, Tryd.ntmps21
  go_wp2_with fail
  refine (lex_ok s (openW w s.size df wf) toks HL.out HS.out (HT.out.below HO.out.2.2.1)).mono ?_
  rintro e w1 ⟨v, rfl, hown, hb1⟩
  obtain ⟨a, c, rfl⟩ := (Has.of_owns hown).slice
  have hsz := HO.out.2.2.2
  have hrc : w1.heap[w.heap.size + 4]? = some (.cells (rdCells (.slice none 0 0) 0 s.size 0 df wf) 76 (0, 0)) := by rw [hb1.block _ (by omega)]; exact HO.out.2.1
  have HR1 : Hid (Res4 w1 w.heap.size (.slice none 0 0) (.int .i64 0) (.int .i64 0) (.slice none 0 0) (.int .i64 0) (.int .i64 0) (.string ⟨#[]⟩)) := Lib.hid
    ⟨by rw [hb1.block _ (by omega)]; exact HO.out.1.f, by rw [hb1.block _ (by omega)]; exact HO.out.1.e, by rw [hb1.block _ (by omega)]; exact HO.out.1.a, by rw [hb1.block _ (by omega)]; exact HO.out.1.s⟩
  have HBW1 : Hid (Below w.heap.size w w1) := Lib.hid (HO.out.2.2.1.trans (hb1.mono (by omega)))
  have c0 : w1.cell? ⟨w.heap.size + 4, 0, none⟩ = some (.slice none 0 0) := by simp [World.cell?, hrc, rdCells]
  have f0 : w1.frozen? ⟨w.heap.size + 4, 0, none⟩ = false := by simp [World.frozen?, hrc]
  have hlt1 := (Array.getElem?_eq_some_iff.1 hrc).1
  have hfar : (Value.slice a toks.length c).ownBlock ≠ some (w.heap.size + 4) := fun he => by have := (hown.lt _ he).1; omega
  have RD2 : Hid (Rd (w1.setCell ⟨w.heap.size + 4, 0, none⟩ (.slice a toks.length c)) (w.heap.size + 4) toks (.slice a toks.length c) ((0 : Nat) : Int) s.size ((0 : Nat) : Int) df wf) := Lib.hid
    ⟨by simp [World.setCell, Array.getElem?_modify, hrc, rdCells], (Has.of_owns hown).grown (grown_set (grown_refl _ _) 0 _) hfar, hfar⟩
  have HB2 : Hid (Below w.heap.size w (w1.setCell ⟨w.heap.size + 4, 0, none⟩ (.slice a toks.length c))) := Lib.hid (HBW1.out.setCell (p := ⟨w.heap.size + 4, 0, none⟩) (Nat.le_add_right _ _) _)
  have HR2 : Hid (Res4 (w1.setCell ⟨w.heap.size + 4, 0, none⟩ (.slice a toks.length c)) w.heap.size (.slice none 0 0) (.int .i64 0) (.int .i64 0) (.slice none 0 0) (.int .i64 0) (.int .i64 0) (.string ⟨#[]⟩)) := Lib.hid
    ⟨by rw [Below.heap_setCell _ _ _ _ (by simp)]; exact HR1.out.f, by rw [Below.heap_setCell _ _ _ _ (by simp)]; exact HR1.out.e, by rw [Below.heap_setCell _ _ _ _ (by simp)]; exact HR1.out.a, by rw [Below.heap_setCell _ _ _ _ (by simp)]; exact HR1.out.s⟩
  clear hown hb1 hrc hfar hsz
  go_wp2_with fail
  refine (file_any (w.heap.size + 4) toks _ s.size df wf _ w RD2.out HT.out (Nat.le_add_right _ _) HB2.out hlen2 HTX.out).mono ?_
  intro e w3 hres
  rw [HRM.out] at hres
  obtain ⟨rfl, hg3⟩ := hres
  have hz2 : (w1.setCell ⟨w.heap.size + 4, 0, none⟩ (.slice a toks.length c)).heap.size = w1.heap.size := by simp [World.setCell]
  have HR3 : Hid (Res4 w3 w.heap.size (.slice none 0 0) (.int .i64 0) (.int .i64 0) (.slice none 0 0) (.int .i64 0) (.int .i64 0) (.string ⟨#[]⟩)) := Lib.hid
    ⟨by rw [hg3.block _ (by rw [hz2]; omega) (by simp)]; exact HR2.out.f, by rw [hg3.block _ (by rw [hz2]; omega) (by simp)]; exact HR2.out.e, by rw [hg3.block _ (by rw [hz2]; omega) (by simp)]; exact HR2.out.a, by rw [hg3.block _ (by rw [hz2]; omega) (by simp)]; exact HR2.out.s⟩
  have HB3 : Hid (Below w.heap.size w w3) := Lib.hid (HB2.out.trans (below_of_grown hg3 (Nat.le_add_right _ _) (by rw [hz2]; omega)))
  clear hg3 hz2 c0 f0 hlt1 hlen2 hs hmf
  unfold faultV
  go_wp2
  refine leaves_cons (f := 39) (args := capt w.heap.size) (by simp) (by simp [go_sem, capt]) ?_
  refine (catch_fault w.heap.size _ _ _ _ _ _ _ _ _ _ w3 HR3.out).mono ?_
  rintro e u' w'' ⟨rfl, rfl, hr, hb⟩
  have e0 : w''.cell? ⟨w.heap.size, 0, none⟩ = some (.slice none 0 0) := by simp [World.cell?, hr.f]
  have e1 : w''.cell? ⟨w.heap.size, 1, none⟩ = some (.int .i64 0) := by simp [World.cell?, hr.f]
  have e2 : w''.cell? ⟨w.heap.size, 2, none⟩ = some (.int .i64 0) := by simp [World.cell?, hr.f]
  have e3 : w''.cell? ⟨w.heap.size, 3, none⟩ = some (.slice none 0 0) := by simp [World.cell?, hr.f]
  have e4 : w''.cell? ⟨w.heap.size + 1, 0, none⟩ = some (.int .i64 (errOf y)) := by simp [World.cell?, hr.e]
  have e5 : w''.cell? ⟨w.heap.size + 1 + 1, 0, none⟩ = some (.int .i64 (placeT toks k s.size)) := by simp [World.cell?, hr.a]
  have e6 : w''.cell? ⟨w.heap.size + 1 + 1 + 1, 0, none⟩ = some (.string (wordOf y)) := by simp [World.cell?, hr.s]
  refine ⟨.tuple #[fileV (.slice none 0 0) 0 0 (.slice none 0 0), .int .i64 (errOf y), .int .i64 (placeT toks k s.size), .string (wordOf y)], ?_, ?_⟩
  · simp [results, Tryd.results21, go_sem, e0, e1, e2, e3, e4, e5, e6, fileV]
  · exact ⟨rfl, HB3.out.trans hb⟩
end Go.Proofs.YtfpiogaakblpeaaDoor

namespace Go.Proofs.YtfpiogaakblpeaaDoor
open Go.RowKit

theorem skip_cut : ∀ (b : Bool) (l : List UInt8) (m : Nat), l.length - (skip b l).length ≤ m → skip b (l.take m) = (skip b l).take (m - (l.length - (skip b l).length))
  | b, [], m, _ => by cases b <;> simp [skip]
  | false, c :: r, m, h => by
    have h1 := skip_le false r
    have h2 := skip_le true r
    cases m with
    | zero => simp [skip]
    | succ m =>
      rw [List.take_succ_cons]
      simp only [skip] at h ⊢
      by_cases hb : c.toNat = 32 ∨ c.toNat = 9 ∨ c.toNat = 10
      · rw [if_pos hb] at h
        rw [if_pos hb, if_pos hb]
        simp only [List.length_cons] at h ⊢
        rw [skip_cut false r m (by omega)]
        congr 1; omega
      · rw [if_neg hb] at h
        rw [if_neg hb, if_neg hb]
        by_cases h59 : c.toNat = 59
        · rw [if_pos h59] at h
          rw [if_pos h59, if_pos h59]
          simp only [List.length_cons] at h ⊢
          rw [skip_cut true r m (by omega)]
          congr 1; omega
        · rw [if_neg h59, if_neg h59]
          simp
  | true, c :: r, m, h => by
    have h1 := skip_le false r
    have h2 := skip_le true r
    cases m with
    | zero => simp [skip]
    | succ m =>
      rw [List.take_succ_cons]
      simp only [skip] at h ⊢
      by_cases h10 : c.toNat = 10
      · rw [if_pos h10] at h
        rw [if_pos h10, if_pos h10]
        simp only [List.length_cons] at h ⊢
        rw [skip_cut false r m (by omega)]
        congr 1; omega
      · rw [if_neg h10] at h
        rw [if_neg h10, if_neg h10]
        simp only [List.length_cons] at h ⊢
        rw [skip_cut true r m (by omega)]
        congr 1; omega

theorem while_cut (p : UInt8 → Bool) : ∀ (r : List UInt8) (k : Nat), (r.takeWhile p).length ≤ k → (r.take k).takeWhile p = r.takeWhile p ∧ ∃ j, (r.take k).dropWhile p = (r.dropWhile p).take j
  | [], k, _ => ⟨by simp, 0, by simp⟩
  | c :: r, k, h => by
    by_cases hc : p c = true
    · rw [List.takeWhile_cons_of_pos hc] at h
      cases k with
      | zero => simp at h
      | succ k =>
        obtain ⟨h1, j, h2⟩ := while_cut p r k (by simpa using h)
        refine ⟨?_, j, ?_⟩
        · rw [List.take_succ_cons, List.takeWhile_cons_of_pos hc, List.takeWhile_cons_of_pos hc, h1]
        · rw [List.take_succ_cons, List.dropWhile_cons_of_pos hc, List.dropWhile_cons_of_pos hc, h2]
    · cases k with
      | zero => exact ⟨by rw [List.takeWhile_cons_of_neg hc]; rfl, 0, by simp⟩
      | succ k =>
        refine ⟨?_, k + 1, ?_⟩
        · rw [List.take_succ_cons, List.takeWhile_cons_of_neg hc, List.takeWhile_cons_of_neg hc]
        · rw [List.take_succ_cons, List.dropWhile_cons_of_neg hc, List.dropWhile_cons_of_neg hc, List.take_succ_cons]

theorem oneL_cut : ∀ (r : List UInt8) (m : Nat), (oneL r).2.2 = true → (oneL r).2.1.length ≤ m → oneL (r.take m) = oneL r
  | [], m, _, _ => by simp
  | c :: r, m, h, hm => by
    have hp := oneL_len _ h
    cases m with
    | zero => omega
    | succ m =>
      rw [List.take_succ_cons]
      simp only [oneL] at h hm ⊢
      by_cases h1 : c.toNat = 40
      · simp [h1]
      by_cases h2 : c.toNat = 41
      · simp [h2]
      by_cases h3 : isLetter c.toNat = true
      · simp only [h1, h2, h3, if_true, if_false] at h hm ⊢
        rw [(while_cut isAlnum r m (by simpa using hm)).1]
      by_cases h4 : isDigit c.toNat = true
      · simp only [h1, h2, h3, h4, if_true, if_false, Bool.false_eq_true] at h hm ⊢
        obtain ⟨e1, j, e2⟩ := while_cut isDig r m (by simpa using hm)
        rw [e1, e2]
        simp only [Bool.and_eq_true] at h
        have h5 : (!(((r.dropWhile isDig).take j).head?.any fun d => isLetter d.toNat)) = true := by
          cases j with
          | zero => simp
          | succ j => 
            have h6 := h.2
            cases hq : r.dropWhile isDig with
            | nil => simp
            | cons x y => rw [hq] at h6; simpa using h6
        rw [h.1, h.2, h5]
      · simp [h1, h2, h3, h4] at h

theorem lexR_cut : ∀ (f : Nat) (r : List UInt8) (pos : Nat) (toks : List Tok) (p : Nat), lexR f r pos = (toks, some p) → pos ≤ p ∧ lexR f (r.take (p - pos)) pos = (toks, none)
  | 0, r, pos, toks, p, h => by simp [lexR] at h
  | f + 1, r, pos, toks, p, h => by
    have hf := lexR_fault (f + 1) r pos p (by rw [h])
    unfold lexR at h
    by_cases hr : r = []
    · rw [if_pos hr] at h; cases h
    · rw [if_neg hr] at h
      by_cases ho : (oneL r).2.2 = true
      · rw [if_pos ho] at h
        dsimp only at h
        obtain ⟨h1, h2⟩ := Prod.mk.inj h
        have hx : lexR f (skip false (r.drop (oneL r).2.1.length)) (pos + (oneL r).2.1.length + ((r.drop (oneL r).2.1.length).length - (skip false (r.drop (oneL r).2.1.length)).length)) =
          ((lexR f (skip false (r.drop (oneL r).2.1.length)) (pos + (oneL r).2.1.length + ((r.drop (oneL r).2.1.length).length - (skip false (r.drop (oneL r).2.1.length)).length))).1, some p) := Prod.ext rfl h2
        obtain ⟨h3, h4⟩ := lexR_cut f _ _ _ p hx
        have h5 := lexR_fault f _ _ p h2
        have hn := oneL_len r ho
        have hle := oneL_le r hr
        have hs := skip_le false (r.drop (oneL r).2.1.length)
        have hd : (r.drop (oneL r).2.1.length).length = r.length - (oneL r).2.1.length := List.length_drop
        refine ⟨by omega, ?_⟩
        have e1 := oneL_cut r (p - pos) ho (by omega)
        have hne : r.take (p - pos) ≠ [] := fun h => by have := congrArg List.length h; rw [List.length_take] at this; simp only [List.length_nil] at this; omega
        unfold lexR
        rw [if_neg hne, e1, if_pos ho]
        dsimp only
        have e2 : (r.take (p - pos)).drop (oneL r).2.1.length = (r.drop (oneL r).2.1.length).take (p - pos - (oneL r).2.1.length) := by rw [List.drop_take]
        rw [e2]
        have e3 := skip_cut false (r.drop (oneL r).2.1.length) (p - pos - (oneL r).2.1.length) (by omega)
        rw [e3]
        have e4 : p - pos - (oneL r).2.1.length - ((r.drop (oneL r).2.1.length).length - (skip false (r.drop (oneL r).2.1.length)).length) = p - (pos + (oneL r).2.1.length + ((r.drop (oneL r).2.1.length).length - (skip false (r.drop (oneL r).2.1.length)).length)) := by omega
        rw [e4]
        have e5 : pos + (oneL r).2.1.length + (((r.drop (oneL r).2.1.length).take (p - pos - (oneL r).2.1.length)).length - ((skip false (r.drop (oneL r).2.1.length)).take (p - (pos + (oneL r).2.1.length + ((r.drop (oneL r).2.1.length).length - (skip false (r.drop (oneL r).2.1.length)).length)))).length) =
          pos + (oneL r).2.1.length + ((r.drop (oneL r).2.1.length).length - (skip false (r.drop (oneL r).2.1.length)).length) := by
          rw [List.length_take, List.length_take]; omega
        rw [e5, h4]
        exact Prod.ext h1 rfl
      · rw [if_neg ho] at h
        obtain ⟨h1, h2⟩ := Prod.mk.inj h
        obtain rfl := Option.some.inj h2
        refine ⟨Nat.le_refl _, ?_⟩
        rw [Nat.sub_self, List.take_zero, lexR_nil, h1]

theorem lexL_cut {l : List UInt8} {toks : List Tok} {p : Nat} (h : lexL l = (toks, some p)) : lexL (l.take p) = (toks, none) := by
  have hp := lexL_fault h
  have h0 : lexR (l.length + 1) (skip false l) (0 + (l.length - (skip false l).length)) = (toks, some p) := h
  obtain ⟨h1, h2⟩ := lexR_cut _ _ _ _ _ h0
  have hs := skip_le false l
  have h3 := skip_cut false l p (by omega)
  have h4 : lexL (l.take p) = lexR ((l.take p).length + 1) (skip false (l.take p)) (0 + ((l.take p).length - (skip false (l.take p)).length)) := rfl
  have e1 : p - (l.length - (skip false l).length) = p - (0 + (l.length - (skip false l).length)) := by omega
  have hf := lexR_fault _ _ _ p (by rw [h0])
  rw [h4, h3, e1]
  have e2 : 0 + ((l.take p).length - ((skip false l).take (p - (0 + (l.length - (skip false l).length)))).length) = 0 + (l.length - (skip false l).length) := by
    rw [List.length_take, List.length_take]; omega
  rw [e2, lexR_fuel _ (l.length + 1) _ _ (by rw [List.length_take, List.length_take]; omega) (by rw [List.length_take]; omega)]
  exact h2
end Go.Proofs.YtfpiogaakblpeaaDoor

namespace Go.Proofs.YtfpiogaakblpeaaDoor
open Go.RowKit

theorem extract_list (s : ByteArray) (p : Nat) : (s.extract 0 p).data.toList = s.data.toList.take p := by simp

/-- what parse.File answers where the lexer stops -/
def whyCut (r : Res (List DT × DT)) : Nat × Why := match r with | .ok _ k _ => (k, .parse) | .bad k y => (k, y)

set_option maxHeartbeats 1600000 in
set_option maxRecDepth 100000 in
theorem fileCut_any (s : ByteArray) (df wf : Nat) (w : World) (ht : Tab w) (hs : s.size ≤ 1099511627776) (toks : List Tok) (p : Nat) (hl : lexL s.data.toList = (toks, some p)) (k : Nat) (y : Why)
    (hw : whyCut (fileM ⟨toks, fun m => withinB m df, fun m => withinB m wf⟩) = (k, y)) :
    Calls Tryd.prog 21 #[.string s, .float .f64 df, .float .f64 wf] w (FileBad w (errOf y) (placeT toks k p) (wordOf y)) := by
  have HW := Lib.hid hw
  clear hw
  have hmf : ∀ (fn : Fn) (first cap : Array Value) (w : World), (Instr.makeFunc fn first cap).run Tryd.prog w = .ok (.func fn first cap) w := fun _ _ _ _ => rfl
  have hpl := lexL_fault hl
  have hcut := lexL_cut hl
  have hlen := lexL_length s.data.toList
  rw [hl] at hlen
  have hlen2 : toks.length ≤ 1099511627776 := by have e : s.data.toList.length = s.size := by simp
                                                 dsimp only at hlen; omega
  have HTX : Hid (∀ j, (textAt toks j).length ≤ 1099511627776) := Lib.hid (fun j => by
    have h1 := textAt_le (s.extract 0 p) toks (by rw [extract_list]; exact hcut) j
    have h2 : (s.extract 0 p).size ≤ s.size := by simp [ByteArray.size_extract]; omega
    omega)
  have HT := Lib.hid ht
  have HS := Lib.hid hs
  have HL := Lib.hid hl
  have HPL : Hid (p ≤ s.size) := Lib.hid (by simpa using hpl)
  have HCUT : Hid (lexL (s.extract 0 p).data.toList = (toks, none)) := Lib.hid (by rw [extract_list]; exact hcut)
  have HX : Hid ((s.extract 0 p).size ≤ 1099511627776) := Lib.hid (by simp [ByteArray.size_extract]; omega)
  have HO := Lib.hid (openW_facts w s.size df wf)
  clear ht hl hlen hpl hcut
  go_enter_defers Tryd.func21, Tryd.ntmps21
  go_wp2_with fail
  refine (lex_bad s (openW w s.size df wf) toks p HL.out HS.out (HT.out.below HO.out.2.2.1)).mono ?_
  rintro e wa ⟨rfl, hba⟩
  have hsz := HO.out.2.2.2
  have hrca : wa.heap[w.heap.size + 4]? = some (.cells (rdCells (.slice none 0 0) 0 s.size 0 df wf) 76 (0, 0)) := by rw [hba.block _ (by omega)]; exact HO.out.2.1
  have HRA : Hid (Res4 wa w.heap.size (.slice none 0 0) (.int .i64 0) (.int .i64 0) (.slice none 0 0) (.int .i64 0) (.int .i64 0) (.string ⟨#[]⟩)) := Lib.hid
    ⟨by rw [hba.block _ (by omega)]; exact HO.out.1.f, by rw [hba.block _ (by omega)]; exact HO.out.1.e, by rw [hba.block _ (by omega)]; exact HO.out.1.a, by rw [hba.block _ (by omega)]; exact HO.out.1.s⟩
  have HBWA : Hid (Below w.heap.size w wa) := Lib.hid (HO.out.2.2.1.trans (hba.mono (by omega)))
  have c2 : wa.cell? ⟨w.heap.size + 4, 2, none⟩ = some (.int .i64 s.size) := by simp [World.cell?, hrca, rdCells]
  have f2 : wa.frozen? ⟨w.heap.size + 4, 2, none⟩ = false := by simp [World.frozen?, hrca]
  have hlta := (Array.getElem?_eq_some_iff.1 hrca).1
  have hrcb : (wa.setCell ⟨w.heap.size + 4, 2, none⟩ (.int .i64 p)).heap[w.heap.size + 4]? = some (.cells (rdCells (.slice none 0 0) 0 p 0 df wf) 76 (0, 0)) := by simp [World.setCell, Array.getElem?_modify, hrca, rdCells]
  have HRCB := Lib.hid hrcb
  have HBWB : Hid (Below w.heap.size w (wa.setCell ⟨w.heap.size + 4, 2, none⟩ (.int .i64 p))) := Lib.hid (HBWA.out.setCell (p := ⟨w.heap.size + 4, 2, none⟩) (Nat.le_add_right _ _) _)
  have HRB : Hid (Res4 (wa.setCell ⟨w.heap.size + 4, 2, none⟩ (.int .i64 p)) w.heap.size (.slice none 0 0) (.int .i64 0) (.int .i64 0) (.slice none 0 0) (.int .i64 0) (.int .i64 0) (.string ⟨#[]⟩)) := Lib.hid
    ⟨by rw [Below.heap_setCell _ _ _ _ (by simp)]; exact HRA.out.f, by rw [Below.heap_setCell _ _ _ _ (by simp)]; exact HRA.out.e, by rw [Below.heap_setCell _ _ _ _ (by simp)]; exact HRA.out.a, by rw [Below.heap_setCell _ _ _ _ (by simp)]; exact HRA.out.s⟩
  have HSB : Hid ((wa.setCell ⟨w.heap.size + 4, 2, none⟩ (.int .i64 p)).heap.size = wa.heap.size) := Lib.hid (by simp [World.setCell])
  have HLA := Lib.hid hlta
  have hpi : (p : Int) ≤ s.size := by have := HPL.out; omega
  clear hba hrca hrcb hsz
  go_wp2_with fail
  refine (lex_ok (s.extract 0 p) (wa.setCell ⟨w.heap.size + 4, 2, none⟩ (.int .i64 p)) toks HCUT.out HX.out (HT.out.below HBWB.out)).mono ?_
  rintro e w1 ⟨v, rfl, hown, hb1⟩
  obtain ⟨a, c, rfl⟩ := (Has.of_owns hown).slice
  have hsz : w.heap.size + 4 < (wa.setCell ⟨w.heap.size + 4, 2, none⟩ (.int .i64 p)).heap.size := by rw [HSB.out]; exact HLA.out
  have hrc : w1.heap[w.heap.size + 4]? = some (.cells (rdCells (.slice none 0 0) 0 p 0 df wf) 76 (0, 0)) := by rw [hb1.block _ (by omega)]; exact HRCB.out
  have HR1 : Hid (Res4 w1 w.heap.size (.slice none 0 0) (.int .i64 0) (.int .i64 0) (.slice none 0 0) (.int .i64 0) (.int .i64 0) (.string ⟨#[]⟩)) := Lib.hid
    ⟨by rw [hb1.block _ (by omega)]; exact HRB.out.f, by rw [hb1.block _ (by omega)]; exact HRB.out.e, by rw [hb1.block _ (by omega)]; exact HRB.out.a, by rw [hb1.block _ (by omega)]; exact HRB.out.s⟩
  have HBW1 : Hid (Below w.heap.size w w1) := Lib.hid (HBWB.out.trans (hb1.mono (by omega)))
  have c0 : w1.cell? ⟨w.heap.size + 4, 0, none⟩ = some (.slice none 0 0) := by simp [World.cell?, hrc, rdCells]
  have f0 : w1.frozen? ⟨w.heap.size + 4, 0, none⟩ = false := by simp [World.frozen?, hrc]
  have hlt1 := (Array.getElem?_eq_some_iff.1 hrc).1
  have hfar : (Value.slice a toks.length c).ownBlock ≠ some (w.heap.size + 4) := fun he => by have := (hown.lt _ he).1; omega
  have HF0 : Hid ((Value.slice a toks.length c).ownBlock ≠ some w.heap.size) := Lib.hid (fun he => by have := (hown.lt _ he).1; omega)
  have RD2 : Hid (Rd (w1.setCell ⟨w.heap.size + 4, 0, none⟩ (.slice a toks.length c)) (w.heap.size + 4) toks (.slice a toks.length c) ((0 : Nat) : Int) p ((0 : Nat) : Int) df wf) := Lib.hid
    ⟨by simp [World.setCell, Array.getElem?_modify, hrc, rdCells], (Has.of_owns hown).grown (grown_set (grown_refl _ _) 0 _) hfar, hfar⟩
  have HB2 : Hid (Below w.heap.size w (w1.setCell ⟨w.heap.size + 4, 0, none⟩ (.slice a toks.length c))) := Lib.hid (HBW1.out.setCell (p := ⟨w.heap.size + 4, 0, none⟩) (Nat.le_add_right _ _) _)
  have HR2 : Hid (Res4 (w1.setCell ⟨w.heap.size + 4, 0, none⟩ (.slice a toks.length c)) w.heap.size (.slice none 0 0) (.int .i64 0) (.int .i64 0) (.slice none 0 0) (.int .i64 0) (.int .i64 0) (.string ⟨#[]⟩)) := Lib.hid
    ⟨by rw [Below.heap_setCell _ _ _ _ (by simp)]; exact HR1.out.f, by rw [Below.heap_setCell _ _ _ _ (by simp)]; exact HR1.out.e, by rw [Below.heap_setCell _ _ _ _ (by simp)]; exact HR1.out.a, by rw [Below.heap_setCell _ _ _ _ (by simp)]; exact HR1.out.s⟩
  clear hown hb1 hrc hfar hsz
  go_wp2_with fail
  refine (file_any (w.heap.size + 4) toks _ p df wf _ w RD2.out HT.out (Nat.le_add_right _ _) HB2.out hlen2 HTX.out).mono ?_
  intro e w3 hres
  cases hf : fileM ⟨toks, fun m => withinB m df, fun m => withinB m wf⟩ with
  | bad k' y' =>
    rw [hf] at hres
    have hw := HW.out
    rw [hf] at hw
    obtain ⟨rfl, rfl⟩ := Prod.mk.inj (show (k', y') = (k, y) from hw)
    clear hf hw HW
    obtain ⟨rfl, hg3⟩ := hres
    have hz2 : (w1.setCell ⟨w.heap.size + 4, 0, none⟩ (.slice a toks.length c)).heap.size = w1.heap.size := by simp [World.setCell]
    have HR3 : Hid (Res4 w3 w.heap.size (.slice none 0 0) (.int .i64 0) (.int .i64 0) (.slice none 0 0) (.int .i64 0) (.int .i64 0) (.string ⟨#[]⟩)) := Lib.hid
      ⟨by rw [hg3.block _ (by rw [hz2]; omega) (by simp)]; exact HR2.out.f, by rw [hg3.block _ (by rw [hz2]; omega) (by simp)]; exact HR2.out.e, by rw [hg3.block _ (by rw [hz2]; omega) (by simp)]; exact HR2.out.a, by rw [hg3.block _ (by rw [hz2]; omega) (by simp)]; exact HR2.out.s⟩
    have HB3 : Hid (Below w.heap.size w w3) := Lib.hid (HB2.out.trans (below_of_grown hg3 (Nat.le_add_right _ _) (by rw [hz2]; omega)))
    clear hg3 hz2 c0 f0 hlt1 hlen2 hs hmf
    unfold faultV
    go_wp2
    refine leaves_cons (f := 39) (args := capt w.heap.size) (by simp) (by simp [go_sem, capt]) ?_
    refine (catch_fault w.heap.size _ _ _ _ _ _ _ _ _ _ w3 HR3.out).mono ?_
    rintro e u' w'' ⟨rfl, rfl, hr, hb⟩
    have e0 : w''.cell? ⟨w.heap.size, 0, none⟩ = some (.slice none 0 0) := by simp [World.cell?, hr.f]
    have e1 : w''.cell? ⟨w.heap.size, 1, none⟩ = some (.int .i64 0) := by simp [World.cell?, hr.f]
    have e2 : w''.cell? ⟨w.heap.size, 2, none⟩ = some (.int .i64 0) := by simp [World.cell?, hr.f]
    have e3 : w''.cell? ⟨w.heap.size, 3, none⟩ = some (.slice none 0 0) := by simp [World.cell?, hr.f]
    have e4 : w''.cell? ⟨w.heap.size + 1, 0, none⟩ = some (.int .i64 (errOf y')) := by simp [World.cell?, hr.e]
    have e5 : w''.cell? ⟨w.heap.size + 1 + 1, 0, none⟩ = some (.int .i64 (placeT toks k' p)) := by simp [World.cell?, hr.a]
    have e6 : w''.cell? ⟨w.heap.size + 1 + 1 + 1, 0, none⟩ = some (.string (wordOf y')) := by simp [World.cell?, hr.s]
    refine ⟨.tuple #[fileV (.slice none 0 0) 0 0 (.slice none 0 0), .int .i64 (errOf y'), .int .i64 (placeT toks k' p), .string (wordOf y')], ?_, ?_⟩
    · simp [results, Tryd.results21, go_sem, e0, e1, e2, e3, e4, e5, e6, fileV]
    · exact ⟨rfl, HB3.out.trans hb⟩
  | ok x k' n =>
    rw [hf] at hres
    have hw := HW.out
    rw [hf] at hw
    obtain ⟨rfl, rfl⟩ := Prod.mk.inj (show (k', Why.parse) = (k, y) from hw)
    clear hf hw HW
    obtain ⟨cv, v3, rfl, hrc3, hrk3, hx1, hx2, hrd3, hg3⟩ := hres
    obtain ⟨hl4, a4, c4, rfl⟩ := hrc3.form
    obtain ⟨hl5, a5, c5, rfl⟩ := hrk3.form
    have hz2 : (w1.setCell ⟨w.heap.size + 4, 0, none⟩ (.slice a toks.length c)).heap.size = w1.heap.size := by simp [World.setCell]
    have HR3 : Hid (Res4 w3 w.heap.size (.slice none 0 0) (.int .i64 0) (.int .i64 0) (.slice none 0 0) (.int .i64 0) (.int .i64 0) (.string ⟨#[]⟩)) := Lib.hid
      ⟨by rw [hg3.block _ (by rw [hz2]; omega) (by simp)]; exact HR2.out.f, by rw [hg3.block _ (by rw [hz2]; omega) (by simp)]; exact HR2.out.e, by rw [hg3.block _ (by rw [hz2]; omega) (by simp)]; exact HR2.out.a, by rw [hg3.block _ (by rw [hz2]; omega) (by simp)]; exact HR2.out.s⟩
    have HB3 : Hid (Below w.heap.size w w3) := Lib.hid (HB2.out.trans (below_of_grown hg3 (Nat.le_add_right _ _) (by rw [hz2]; omega)))
    have HZ := Lib.hid hz2
    have HG3 := Lib.hid hg3
    have h := HR3.out
    have x0 : w3.cell? ⟨w.heap.size, 0, none⟩ = some (.slice none 0 0) := by simp [World.cell?, h.f]
    have x1 : w3.cell? ⟨w.heap.size, 1, none⟩ = some (.int .i64 0) := by simp [World.cell?, h.f]
    have x2 : w3.cell? ⟨w.heap.size, 2, none⟩ = some (.int .i64 0) := by simp [World.cell?, h.f]
    have x3 : w3.cell? ⟨w.heap.size, 3, none⟩ = some (.slice none 0 0) := by simp [World.cell?, h.f]
    have x4 : w3.cell? ⟨w.heap.size + 1, 0, none⟩ = some (.int .i64 0) := by simp [World.cell?, h.e]
    have x5 : w3.cell? ⟨w.heap.size + 1 + 1, 0, none⟩ = some (.int .i64 0) := by simp [World.cell?, h.a]
    have x6 : w3.cell? ⟨w.heap.size + 1 + 1 + 1, 0, none⟩ = some (.string ⟨#[]⟩) := by simp [World.cell?, h.s]
    have y0 : w3.frozen? ⟨w.heap.size, 0, none⟩ = false := by simp [World.frozen?, h.f]
    have y1 : w3.frozen? ⟨w.heap.size, 1, none⟩ = false := by simp [World.frozen?, h.f]
    have y2 : w3.frozen? ⟨w.heap.size, 2, none⟩ = false := by simp [World.frozen?, h.f]
    have y3 : w3.frozen? ⟨w.heap.size, 3, none⟩ = false := by simp [World.frozen?, h.f]
    have y4 : w3.frozen? ⟨w.heap.size + 1, 0, none⟩ = false := by simp [World.frozen?, h.e]
    have y5 : w3.frozen? ⟨w.heap.size + 1 + 1, 0, none⟩ = false := by simp [World.frozen?, h.a]
    have y6 : w3.frozen? ⟨w.heap.size + 1 + 1 + 1, 0, none⟩ = false := by simp [World.frozen?, h.s]
    have z6 : w.heap.size + 1 + 1 + 1 < w3.heap.size := (Array.getElem?_eq_some_iff.1 h.s).1
    have hg4 : w3.grownBy ((((w3.setCell ⟨w.heap.size, 0, none⟩ (.slice a4 x.1.length c4)).setCell ⟨w.heap.size, 1, none⟩ (.int .i64 x.2.rule)).setCell ⟨w.heap.size, 2, none⟩ (.int .i64 x.2.idx)).setCell ⟨w.heap.size, 3, none⟩ (.slice a5 x.2.kids.length c5)) (some w.heap.size) := grown_set (grown_set (grown_set (grown_set (grown_refl _ _) 0 _) 1 _) 2 _) 3 _
    have HG4 := Lib.hid hg4
    have RD4 : Hid (Rd ((((w3.setCell ⟨w.heap.size, 0, none⟩ (.slice a4 x.1.length c4)).setCell ⟨w.heap.size, 1, none⟩ (.int .i64 x.2.rule)).setCell ⟨w.heap.size, 2, none⟩ (.int .i64 x.2.idx)).setCell ⟨w.heap.size, 3, none⟩ (.slice a5 x.2.kids.length c5)) (w.heap.size + 4) toks (.slice a toks.length c) (k' : Int) p n df wf) := Lib.hid
      ⟨by rw [hg4.block _ (Array.getElem?_eq_some_iff.1 hrd3.cells).1 (by simp)]; exact hrd3.cells, hrd3.has.grown hg4 HF0.out, hrd3.far⟩
    have r1 : ((((w3.setCell ⟨w.heap.size, 0, none⟩ (.slice a4 x.1.length c4)).setCell ⟨w.heap.size, 1, none⟩ (.int .i64 x.2.rule)).setCell ⟨w.heap.size, 2, none⟩ (.int .i64 x.2.idx)).setCell ⟨w.heap.size, 3, none⟩ (.slice a5 x.2.kids.length c5)).cell? ⟨w.heap.size + 4, 1, none⟩ = some (.int .i64 (k' : Int)) := by simp [World.cell?, RD4.out.cells, rdCells]
    have HRD3 := Lib.hid hrd3
    clear h hrc3 hrk3 hx1 hx2 hrd3 hg3 hg4 hz2 hl4 hl5 c0 f0 hlt1 hlen2 hs hmf
    unfold fileV
    go_wp2_with fail
    refine (stop_any (w.heap.size + 4) toks _ k' k' p n df wf 2 ⟨#[]⟩ _ RD4.out).mono ?_
    rintro e w5 ⟨rfl, m, rfl⟩
    have h := HR3.out
    obtain ⟨W, hW, hWr, hWz⟩ : ∃ W, ((((w3.setCell ⟨w.heap.size, 0, none⟩ (.slice a4 x.1.length c4)).setCell ⟨w.heap.size, 1, none⟩ (.int .i64 x.2.rule)).setCell ⟨w.heap.size, 2, none⟩ (.int .i64 x.2.idx)).setCell ⟨w.heap.size, 3, none⟩ (.slice a5 x.2.kids.length c5)).drewN m = W ∧
        Res4 W w.heap.size (.slice a4 x.1.length c4) (.int .i64 x.2.rule) (.int .i64 x.2.idx) (.slice a5 x.2.kids.length c5) (.int .i64 0) (.int .i64 0) (.string ⟨#[]⟩) ∧ Below w.heap.size w3 W := by
      have hz : ∀ i, i < w3.heap.size → (((((w3.setCell ⟨w.heap.size, 0, none⟩ (.slice a4 x.1.length c4)).setCell ⟨w.heap.size, 1, none⟩ (.int .i64 x.2.rule)).setCell ⟨w.heap.size, 2, none⟩ (.int .i64 x.2.idx)).setCell ⟨w.heap.size, 3, none⟩ (.slice a5 x.2.kids.length c5)).drewN m).heap[i]? = ((((w3.setCell ⟨w.heap.size, 0, none⟩ (.slice a4 x.1.length c4)).setCell ⟨w.heap.size, 1, none⟩ (.int .i64 x.2.rule)).setCell ⟨w.heap.size, 2, none⟩ (.int .i64 x.2.idx)).setCell ⟨w.heap.size, 3, none⟩ (.slice a5 x.2.kids.length c5)).heap[i]? := fun i hi => (below_drewN (Below.refl w3.heap.size _) m).block i hi
      refine ⟨_, rfl, ⟨?_, ?_, ?_, ?_⟩, below_drewN (((((Below.refl _ w3).setCell (p := ⟨w.heap.size, 0, none⟩) (Nat.le_refl _) _).setCell (p := ⟨w.heap.size, 1, none⟩) (Nat.le_refl _) _).setCell (p := ⟨w.heap.size, 2, none⟩) (Nat.le_refl _) _).setCell (p := ⟨w.heap.size, 3, none⟩) (Nat.le_refl _) _) m⟩
      · rw [hz _ (Array.getElem?_eq_some_iff.1 h.f).1]
        simp [World.setCell, Array.getElem?_modify, h.f]
      · rw [hz _ (Array.getElem?_eq_some_iff.1 h.e).1]
        simp [World.setCell, Array.getElem?_modify, h.e]
      · rw [hz _ (Array.getElem?_eq_some_iff.1 h.a).1]
        simp [World.setCell, Array.getElem?_modify, h.a]
      · rw [hz _ (Array.getElem?_eq_some_iff.1 h.s).1]
        simp [World.setCell, Array.getElem?_modify, h.s]
        try omega
    rw [hW]
    have HWR := Lib.hid hWr
    have HBW : Hid (Below w.heap.size w W) := Lib.hid (HB3.out.trans hWz)
    clear hW hWr hWz h x0 x1 x2 x3 x4 x5 x6 y0 y1 y2 y3 y4 y5 y6 r1 z6
    unfold faultV
    go_wp2
    refine leaves_cons (f := 39) (args := capt w.heap.size) (by simp) (by simp [go_sem, capt]) ?_
    refine (catch_fault w.heap.size _ _ _ _ _ _ _ _ _ _ W HWR.out).mono ?_
    rintro e u' w'' ⟨rfl, rfl, hr, hb⟩
    have e0 : w''.cell? ⟨w.heap.size, 0, none⟩ = some (.slice none 0 0) := by simp [World.cell?, hr.f]
    have e1 : w''.cell? ⟨w.heap.size, 1, none⟩ = some (.int .i64 0) := by simp [World.cell?, hr.f]
    have e2 : w''.cell? ⟨w.heap.size, 2, none⟩ = some (.int .i64 0) := by simp [World.cell?, hr.f]
    have e3 : w''.cell? ⟨w.heap.size, 3, none⟩ = some (.slice none 0 0) := by simp [World.cell?, hr.f]
    have e4 : w''.cell? ⟨w.heap.size + 1, 0, none⟩ = some (.int .i64 2) := by simp [World.cell?, hr.e]
    have e5 : w''.cell? ⟨w.heap.size + 1 + 1, 0, none⟩ = some (.int .i64 (placeT toks k' p)) := by simp [World.cell?, hr.a]
    have e6 : w''.cell? ⟨w.heap.size + 1 + 1 + 1, 0, none⟩ = some (.string ⟨#[]⟩) := by simp [World.cell?, hr.s]
    refine ⟨.tuple #[fileV (.slice none 0 0) 0 0 (.slice none 0 0), .int .i64 2, .int .i64 (placeT toks k' p), .string ⟨#[]⟩], ?_, ?_⟩
    · simp [results, Tryd.results21, go_sem, e0, e1, e2, e3, e4, e5, e6, fileV]
    · exact ⟨rfl, HBW.out.trans hb⟩
end Go.Proofs.YtfpiogaakblpeaaDoor

namespace Go.Proofs.YtfpiogaakblpeaaDoor
open Go.RowKit

def FileSays (w : World) (text : List UInt8) (df wf : Nat) (e : Ending) (w' : World) : Prop :=
  match wholeM (fun m => withinB m df) (fun m => withinB m wf) text with
  | .ok x _ _ => FileOk w x.1 x.2 e w'
  | .bad k y => FileBad w (errOf y) (placeM text k) (wordOf y) e w'

theorem placeT_M (text : List UInt8) (toks : List Tok) (f : Option Nat) (h : lexL text = (toks, f)) (k : Nat) (en : Nat) (he : en = f.getD text.length) : placeT toks k en = (placeM text k : Nat) := by
  unfold placeT placeM
  rw [h]
  subst he
  cases toks[k]? <;> rfl

theorem parseFile_any (s : ByteArray) (df wf : Nat) (w : World) (ht : Tab w) (hs : s.size ≤ 1099511627776) :
    Calls Tryd.prog 21 #[.string s, .float .f64 df, .float .f64 wf] w (FileSays w s.data.toList df wf) := by
  obtain ⟨toks, f, hl⟩ : ∃ toks f, lexL s.data.toList = (toks, f) := ⟨_, _, rfl⟩
  have hz : s.data.toList.length = s.size := by simp
  have hwh : wholeM (fun m => withinB m df) (fun m => withinB m wf) s.data.toList = match fileM ⟨toks, fun m => withinB m df, fun m => withinB m wf⟩ with
      | .bad k y => .bad k y
      | .ok x k n => if f = none then .ok x k n else .bad k .parse := by
    unfold wholeM
    rw [hl]
    dsimp only
    cases fileM ⟨toks, fun m => withinB m df, fun m => withinB m wf⟩ <;> rfl
  cases f with
  | none =>
    cases hf : fileM ⟨toks, fun m => withinB m df, fun m => withinB m wf⟩ with
    | ok x k n =>
      rw [hf] at hwh
      refine (fileOk_any s df wf w ht hs toks hl x.1 x.2 k n hf).mono ?_
      intro e w' h
      unfold FileSays
      rw [hwh]
      exact h
    | bad k y =>
      rw [hf] at hwh
      refine (fileBad_any s df wf w ht hs toks hl k y hf).mono ?_
      intro e w' h
      unfold FileSays
      rw [hwh]
      show FileBad w (errOf y) (placeM s.data.toList k) (wordOf y) e w'
      rw [← placeT_M _ toks none hl k s.size (by simp)]
      exact h
  | some p =>
    refine (fileCut_any s df wf w ht hs toks p hl (whyCut (fileM ⟨toks, fun m => withinB m df, fun m => withinB m wf⟩)).1 (whyCut (fileM ⟨toks, fun m => withinB m df, fun m => withinB m wf⟩)).2 rfl).mono ?_
    intro e w' h
    unfold FileSays
    cases hf : fileM ⟨toks, fun m => withinB m df, fun m => withinB m wf⟩ with
    | ok x k n =>
      rw [hf] at hwh h
      rw [hwh]
      show FileBad w (errOf .parse) (placeM s.data.toList k) (wordOf .parse) e w'
      rw [← placeT_M _ toks (some p) hl k p rfl]
      exact h
    | bad k y =>
      rw [hf] at hwh h
      rw [hwh]
      show FileBad w (errOf y) (placeM s.data.toList k) (wordOf y) e w'
      rw [← placeT_M _ toks (some p) hl k p rfl]
      exact h
end Go.Proofs.YtfpiogaakblpeaaDoor
