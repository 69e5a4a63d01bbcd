/- Walk of parse.File: a text that is lexed and read. -/
import Derived.Test.YtfpiogaakblpeaaDoorParC
import Derived.Test.YtfpiogaakblpeaaDoorBound
namespace Go.Proofs.YtfpiogaakblpeaaDoor
open Go.RowKit

def FileOk (w : World) (cs : List DT) (d : DT) (e : Ending) (w' : World) : Prop :=
  ∃ cv v, e = .returned (.tuple #[fileV cv d.rule d.idx v, .int .i64 0, .int .i64 0, .string ⟨#[]⟩]) ∧ RepK w' cs cv ∧ RepK w' d.kids v ∧ In64 d.rule ∧ In64 d.idx ∧ Below w.heap.size w w'

/-- the world in which the closure is laid: four results, the reader -/
def openW (w : World) (n : Int) (df wf : Nat) : World :=
  ((((w.alloc (.cells zeroFile 26)).alloc (.cells #[.int .i64 0] 36)).alloc (.cells #[.int .i64 0] 3)).alloc (.cells #[.string ⟨#[]⟩] 9)).alloc (.cells #[.slice none 0 0, .int .i64 0, .int .i64 n, .int .i64 0, .float .f64 df, .float .f64 wf] 76)

theorem openW_facts (w : World) (n : Int) (df wf : Nat) : Res4 (openW w n df wf) w.heap.size (.slice none 0 0) (.int .i64 0) (.int .i64 0) (.slice none 0 0) (.int .i64 0) (.int .i64 0) (.string ⟨#[]⟩) ∧
    (openW w n df wf).heap[w.heap.size + 4]? = some (.cells (rdCells (.slice none 0 0) 0 n 0 df wf) 76 (0, 0)) ∧ Below w.heap.size w (openW w n df wf) ∧ (openW w n df wf).heap.size = w.heap.size + 5 := by
  have h : ∀ (w' : World) (o : Obj) (x : Nat), x < w'.heap.size → (w'.alloc o).heap[x]? = w'.heap[x]? := fun w' o x hx => Lib.alloc_old w' o x hx
  unfold openW
  refine ⟨⟨?_, ?_, ?_, ?_⟩, ?_, ?_, by simp⟩
  · rw [h _ _ _ (by first | (simp; done) | (simp; omega)), h _ _ _ (by first | (simp; done) | (simp; omega)), h _ _ _ (by first | (simp; done) | (simp; omega)), h _ _ _ (by simp)]; exact new_heap _ _ _
  · rw [h _ _ _ (by first | (simp; done) | (simp; omega)), h _ _ _ (by first | (simp; done) | (simp; omega)), h _ _ _ (by simp)]
    have := new_heap (w.alloc (.cells zeroFile 26)) #[.int .i64 0] 36
    rw [show (w.alloc (.cells zeroFile 26)).heap.size = w.heap.size + 1 by simp] at this
    exact this
  · rw [h _ _ _ (by first | (simp; done) | (simp; omega)), h _ _ _ (by simp)]
    have := new_heap ((w.alloc (.cells zeroFile 26)).alloc (.cells #[.int .i64 0] 36)) #[.int .i64 0] 3
    rw [show ((w.alloc (.cells zeroFile 26)).alloc (.cells #[.int .i64 0] 36)).heap.size = w.heap.size + 2 by simp] at this
    exact this
  · rw [h _ _ _ (by simp)]
    have := new_heap (((w.alloc (.cells zeroFile 26)).alloc (.cells #[.int .i64 0] 36)).alloc (.cells #[.int .i64 0] 3)) #[.string ⟨#[]⟩] 9
    rw [show (((w.alloc (.cells zeroFile 26)).alloc (.cells #[.int .i64 0] 36)).alloc (.cells #[.int .i64 0] 3)).heap.size = w.heap.size + 3 by simp] at this
    exact this
  · have := new_heap ((((w.alloc (.cells zeroFile 26)).alloc (.cells #[.int .i64 0] 36)).alloc (.cells #[.int .i64 0] 3)).alloc (.cells #[.string ⟨#[]⟩] 9)) #[.slice none 0 0, .int .i64 0, .int .i64 n, .int .i64 0, .float .f64 df, .float .f64 wf] 76
    rw [show ((((w.alloc (.cells zeroFile 26)).alloc (.cells #[.int .i64 0] 36)).alloc (.cells #[.int .i64 0] 3)).alloc (.cells #[.string ⟨#[]⟩] 9)).heap.size = w.heap.size + 4 by simp] at this
    exact this
  · exact ((((below_alloc _ _).alloc (by simp) _).alloc (by simp; omega) _).alloc (by simp; omega) _).alloc (by simp; omega) _

theorem textAt_le (s : ByteArray) (toks : List Tok) (hl : lexL s.data.toList = (toks, none)) (j : Nat) : (textAt toks j).length ≤ s.size := by
  rcases Nat.lt_or_ge j toks.length with h | h
  · rw [textAt_eq h]
    have := spans_pos s.data.toList 0 toks (spans_lexL _ _ hl) j h
    have e : s.data.toList.length = s.size := by simp
    omega
  · simp [textAt, List.getElem?_eq_none h]

set_option maxHeartbeats 1600000 in
set_option maxRecDepth 100000 in
theorem fileOk_any (s : ByteArray) (df wf : Nat) (w : World) (ht : Tab w) (hs : s.size ≤ 1099511627776) (toks : List Tok) (hl : lexL s.data.toList = (toks, none)) (cs : List DT) (d : DT) (k n : Nat)
    (hf : fileM ⟨toks, fun m => withinB m df, fun m => withinB m wf⟩ = .ok (cs, d) k n) :
    Calls Tryd.prog 21 #[.string s, .float .f64 df, .float .f64 wf] w (FileOk w cs d) := by
  have hmf : ∀ (fn : Fn) (first cap : Array Value) (w : World), (Instr.makeFunc fn first cap).run Tryd.prog w = .ok (.func fn first cap) w := fun _ _ _ _ => rfl
  obtain ⟨k0, k1, k2, k3, _⟩ := fileM_ok hf
  dsimp only at k0 k1 k2 k3
  have hrm := hf
  unfold fileM at hrm
  rw [if_neg (by dsimp only; omega), if_neg (by dsimp only; rw [k2]; simp; omega), if_neg (by dsimp only; omega)] at hrm
  dsimp only at hrm
  have hlen := lexL_length s.data.toList
  rw [hl] at hlen
  have hlen2 : toks.length ≤ 1099511627776 := by have e : s.data.toList.length = s.size := by simp
                                                 dsimp only at hlen; omega
  have HTX : Hid (∀ j, (textAt toks j).length ≤ 1099511627776) := Lib.hid (fun j => Nat.le_trans (textAt_le s toks hl j) hs)
  have HT := Lib.hid ht
  have HS := Lib.hid hs
  have HL := Lib.hid hl
  have HRM := Lib.hid hrm
  have HKK := Lib.hid (And.intro k0 (And.intro k1 (And.intro k2 k3)))
  have HO := Lib.hid (openW_facts w s.size df wf)
  clear ht hl hf hrm hlen k0 k1 k2 k3
  go_enter_defers Tryd.func21, Tryd.ntmps21
  go_wp2_with fail
  refine (lex_ok s (openW w s.size df wf) toks HL.out HS.out (HT.out.below HO.out.2.2.1)).mono ?_
  rintro e w1 ⟨v, rfl, hown, hb1⟩
  obtain ⟨a, c, rfl⟩ := (Has.of_owns hown).slice
  have hsz := HO.out.2.2.2
  have hrc : w1.heap[w.heap.size + 4]? = some (.cells (rdCells (.slice none 0 0) 0 s.size 0 df wf) 76 (0, 0)) := by rw [hb1.block _ (by omega)]; exact HO.out.2.1
  have HR1 : Hid (Res4 w1 w.heap.size (.slice none 0 0) (.int .i64 0) (.int .i64 0) (.slice none 0 0) (.int .i64 0) (.int .i64 0) (.string ⟨#[]⟩)) := Lib.hid
    ⟨by rw [hb1.block _ (by omega)]; exact HO.out.1.f, by rw [hb1.block _ (by omega)]; exact HO.out.1.e, by rw [hb1.block _ (by omega)]; exact HO.out.1.a, by rw [hb1.block _ (by omega)]; exact HO.out.1.s⟩
  have HBW1 : Hid (Below w.heap.size w w1) := Lib.hid (HO.out.2.2.1.trans (hb1.mono (by omega)))
  have c0 : w1.cell? ⟨w.heap.size + 4, 0, none⟩ = some (.slice none 0 0) := by simp [World.cell?, hrc, rdCells]
  have f0 : w1.frozen? ⟨w.heap.size + 4, 0, none⟩ = false := by simp [World.frozen?, hrc]
  have hlt1 := (Array.getElem?_eq_some_iff.1 hrc).1
  have hfar : (Value.slice a toks.length c).ownBlock ≠ some (w.heap.size + 4) := fun he => by have := (hown.lt _ he).1; omega
  have RD2 : Hid (Rd (w1.setCell ⟨w.heap.size + 4, 0, none⟩ (.slice a toks.length c)) (w.heap.size + 4) toks (.slice a toks.length c) ((0 : Nat) : Int) s.size ((0 : Nat) : Int) df wf) := Lib.hid
    ⟨by simp [World.setCell, Array.getElem?_modify, hrc, rdCells], (Has.of_owns hown).grown (grown_set (grown_refl _ _) 0 _) hfar, hfar⟩
  have HB2 : Hid (Below w.heap.size w (w1.setCell ⟨w.heap.size + 4, 0, none⟩ (.slice a toks.length c))) := Lib.hid (HBW1.out.setCell (p := ⟨w.heap.size + 4, 0, none⟩) (Nat.le_add_right _ _) _)
  have HR2 : Hid (Res4 (w1.setCell ⟨w.heap.size + 4, 0, none⟩ (.slice a toks.length c)) w.heap.size (.slice none 0 0) (.int .i64 0) (.int .i64 0) (.slice none 0 0) (.int .i64 0) (.int .i64 0) (.string ⟨#[]⟩)) := Lib.hid
    ⟨by rw [Below.heap_setCell _ _ _ _ (by simp)]; exact HR1.out.f, by rw [Below.heap_setCell _ _ _ _ (by simp)]; exact HR1.out.e, by rw [Below.heap_setCell _ _ _ _ (by simp)]; exact HR1.out.a, by rw [Below.heap_setCell _ _ _ _ (by simp)]; exact HR1.out.s⟩
  clear hown hb1 hrc hfar hsz
  go_wp2_with fail
  refine (file_tail (w.heap.size + 4) toks _ s.size df wf _ w RD2.out HT.out (Nat.le_add_right _ _) HB2.out hlen2 HTX.out HKK.out.1 HKK.out.2.1 HKK.out.2.2.1 HKK.out.2.2.2).mono ?_
  intro e w3 hres
  rw [HRM.out] at hres
  obtain ⟨cv, v3, rfl, hrc3, hrk3, hx1, hx2, hrd3, hg3⟩ := hres
  obtain ⟨hl4, a4, c4, rfl⟩ := hrc3.form
  obtain ⟨hl5, a5, c5, rfl⟩ := hrk3.form
  have hz2 : (w1.setCell ⟨w.heap.size + 4, 0, none⟩ (.slice a toks.length c)).heap.size = w1.heap.size := by simp [World.setCell]
  have HR3 : Hid (Res4 w3 w.heap.size (.slice none 0 0) (.int .i64 0) (.int .i64 0) (.slice none 0 0) (.int .i64 0) (.int .i64 0) (.string ⟨#[]⟩)) := Lib.hid
    ⟨by rw [hg3.block _ (by rw [hz2]; omega) (by simp)]; exact HR2.out.f, by rw [hg3.block _ (by rw [hz2]; omega) (by simp)]; exact HR2.out.e, by rw [hg3.block _ (by rw [hz2]; omega) (by simp)]; exact HR2.out.a, by rw [hg3.block _ (by rw [hz2]; omega) (by simp)]; exact HR2.out.s⟩
  have HB3 : Hid (Below w.heap.size w w3) := Lib.hid (HB2.out.trans (below_of_grown hg3 (Nat.le_add_right _ _) (by rw [hz2]; omega)))
  have HP := Lib.hid (And.intro hrc3 (And.intro hrk3 (And.intro hx1 hx2)))
  have HZ := Lib.hid hz2
  have HLT1 := Lib.hid hlt1
  have HG3 := Lib.hid hg3
  have h := HR3.out
  have x0 : w3.cell? ⟨w.heap.size, 0, none⟩ = some (.slice none 0 0) := by simp [World.cell?, h.f]
  have x1 : w3.cell? ⟨w.heap.size, 1, none⟩ = some (.int .i64 0) := by simp [World.cell?, h.f]
  have x2 : w3.cell? ⟨w.heap.size, 2, none⟩ = some (.int .i64 0) := by simp [World.cell?, h.f]
  have x3 : w3.cell? ⟨w.heap.size, 3, none⟩ = some (.slice none 0 0) := by simp [World.cell?, h.f]
  have x4 : w3.cell? ⟨w.heap.size + 1, 0, none⟩ = some (.int .i64 0) := by simp [World.cell?, h.e]
  have x5 : w3.cell? ⟨w.heap.size + 1 + 1, 0, none⟩ = some (.int .i64 0) := by simp [World.cell?, h.a]
  have x6 : w3.cell? ⟨w.heap.size + 1 + 1 + 1, 0, none⟩ = some (.string ⟨#[]⟩) := by simp [World.cell?, h.s]
  have y0 : w3.frozen? ⟨w.heap.size, 0, none⟩ = false := by simp [World.frozen?, h.f]
  have y1 : w3.frozen? ⟨w.heap.size, 1, none⟩ = false := by simp [World.frozen?, h.f]
  have y2 : w3.frozen? ⟨w.heap.size, 2, none⟩ = false := by simp [World.frozen?, h.f]
  have y3 : w3.frozen? ⟨w.heap.size, 3, none⟩ = false := by simp [World.frozen?, h.f]
  have y4 : w3.frozen? ⟨w.heap.size + 1, 0, none⟩ = false := by simp [World.frozen?, h.e]
  have y5 : w3.frozen? ⟨w.heap.size + 1 + 1, 0, none⟩ = false := by simp [World.frozen?, h.a]
  have y6 : w3.frozen? ⟨w.heap.size + 1 + 1 + 1, 0, none⟩ = false := by simp [World.frozen?, h.s]
  have z6 : w.heap.size + 1 + 1 + 1 < w3.heap.size := (Array.getElem?_eq_some_iff.1 h.s).1
  clear h hrc3 hrk3 hx1 hx2 hrd3 hg3 hz2 hl4 hl5 c0 f0 hlt1 hlen2 hs hmf
  unfold fileV
  go_wp2
  have h := HR3.out
  obtain ⟨W, hW, hWr, hWx, hWz⟩ : ∃ W, (((((((((((w3.setCell ⟨w.heap.size, 0, none⟩ (.slice a4 cs.length c4)).setCell ⟨w.heap.size, 1, none⟩ (.int .i64 d.rule)).setCell ⟨w.heap.size, 2, none⟩ (.int .i64 d.idx)).setCell ⟨w.heap.size, 3, none⟩ (.slice a5 d.kids.length c5)).setCell
      ⟨w.heap.size, 0, none⟩ (.slice a4 cs.length c4)).setCell ⟨w.heap.size, 1, none⟩ (.int .i64 d.rule)).setCell ⟨w.heap.size, 2, none⟩ (.int .i64 d.idx)).setCell ⟨w.heap.size, 3, none⟩ (.slice a5 d.kids.length c5)).setCell ⟨w.heap.size + 1, 0, none⟩ (.int .i64 0)).setCell ⟨w.heap.size + 1 + 1, 0, none⟩ (.int .i64 0)).setCell ⟨w.heap.size + 1 + 1 + 1, 0, none⟩ (.string ⟨#[]⟩)) = W ∧
      Res4 W w.heap.size (.slice a4 cs.length c4) (.int .i64 d.rule) (.int .i64 d.idx) (.slice a5 d.kids.length c5) (.int .i64 0) (.int .i64 0) (.string ⟨#[]⟩) ∧ (∀ x, w.heap.size + 4 ≤ x → W.heap[x]? = w3.heap[x]?) ∧ W.heap.size = w3.heap.size ∧ Below w.heap.size w3 W := by
    refine ⟨_, rfl, ⟨?_, ?_, ?_, ?_⟩, fun x hx => ?_, by simp [World.setCell], ?_⟩
    · simp [World.setCell, Array.getElem?_modify, h.f]
      all_goals (try (repeat' split))
      all_goals (first | rfl | (exfalso; omega) | simp | (intros; omega))
    · simp [World.setCell, Array.getElem?_modify, h.e]
      all_goals (try (repeat' split))
      all_goals (first | rfl | (exfalso; omega) | simp | (intros; omega))
    · simp [World.setCell, Array.getElem?_modify, h.a]
      all_goals (try (repeat' split))
      all_goals (first | rfl | (exfalso; omega) | simp | (intros; omega))
    · simp [World.setCell, Array.getElem?_modify, h.s]
      all_goals (try (repeat' split))
      all_goals (first | rfl | (exfalso; omega) | simp | (intros; omega))
    · have n0 : ∀ j, x ≠ (⟨w.heap.size, j, none⟩ : Addr).block := fun j => by show x ≠ w.heap.size; omega
      have n1 : x ≠ (⟨w.heap.size + 1, 0, none⟩ : Addr).block := by show x ≠ w.heap.size + 1; omega
      have n2 : x ≠ (⟨w.heap.size + 1 + 1, 0, none⟩ : Addr).block := by show x ≠ w.heap.size + 1 + 1; omega
      have n3 : x ≠ (⟨w.heap.size + 1 + 1 + 1, 0, none⟩ : Addr).block := by show x ≠ w.heap.size + 1 + 1 + 1; omega
      rw [Below.heap_setCell _ _ _ _ n3, Below.heap_setCell _ _ _ _ n2, Below.heap_setCell _ _ _ _ n1, Below.heap_setCell _ _ _ _ (n0 3), Below.heap_setCell _ _ _ _ (n0 2), Below.heap_setCell _ _ _ _ (n0 1), Below.heap_setCell _ _ _ _ (n0 0), Below.heap_setCell _ _ _ _ (n0 3), Below.heap_setCell _ _ _ _ (n0 2), Below.heap_setCell _ _ _ _ (n0 1), Below.heap_setCell _ _ _ _ (n0 0)]
    · have l0 : ∀ j, w.heap.size ≤ (⟨w.heap.size, j, none⟩ : Addr).block := fun j => Nat.le_refl _
      have l1 : w.heap.size ≤ (⟨w.heap.size + 1, 0, none⟩ : Addr).block := Nat.le_add_right _ _
      have l2 : w.heap.size ≤ (⟨w.heap.size + 1 + 1, 0, none⟩ : Addr).block := by show w.heap.size ≤ w.heap.size + 1 + 1; omega
      have l3 : w.heap.size ≤ (⟨w.heap.size + 1 + 1 + 1, 0, none⟩ : Addr).block := by show w.heap.size ≤ w.heap.size + 1 + 1 + 1; omega
      exact ((((((((((((Below.refl _ w3).setCell (l0 0) _).setCell (l0 1) _).setCell (l0 2) _).setCell (l0 3) _).setCell (l0 0) _).setCell (l0 1) _).setCell (l0 2) _).setCell (l0 3) _).setCell l1 _).setCell l2 _).setCell l3 _)
  rw [hW]
  clear hW h x0 x1 x2 x3 x4 x5 x6 y0 y1 y2 y3 y4 y5 y6
  have hW3 := HZ.out
  have HREPC : Hid (RepK W cs (.slice a4 cs.length c4)) := Lib.hid ((HP.out.1.kept (S' := fun _ => True) (by omega) fun x hx _ => ⟨hWx x (by have := HLT1.out; rw [hW3] at hx; omega), trivial⟩).rep)
  have HREPD : Hid (RepK W d.kids (.slice a5 d.kids.length c5)) := Lib.hid ((HP.out.2.1.kept (S' := fun _ => True) (by omega) fun x hx _ => ⟨hWx x (by have := HLT1.out; rw [hW3] at hx; omega), trivial⟩).rep)
  have HBW : Hid (Below w.heap.size w W) := Lib.hid (HB3.out.trans hWz.2)
  clear hWx hWz hW3
  refine leaves_cons (f := 39) (args := capt w.heap.size) (by simp) (by simp [go_sem, capt]) ?_
  refine (catch_idle w.heap.size W).mono ?_
  rintro e u' w'' ⟨rfl, rfl, rfl⟩
  have e0 : w''.cell? ⟨w.heap.size, 0, none⟩ = some (.slice a4 cs.length c4) := by simp [World.cell?, hWr.f]
  have e1 : w''.cell? ⟨w.heap.size, 1, none⟩ = some (.int .i64 d.rule) := by simp [World.cell?, hWr.f]
  have e2 : w''.cell? ⟨w.heap.size, 2, none⟩ = some (.int .i64 d.idx) := by simp [World.cell?, hWr.f]
  have e3 : w''.cell? ⟨w.heap.size, 3, none⟩ = some (.slice a5 d.kids.length c5) := by simp [World.cell?, hWr.f]
  have e4 : w''.cell? ⟨w.heap.size + 1, 0, none⟩ = some (.int .i64 0) := by simp [World.cell?, hWr.e]
  have e5 : w''.cell? ⟨w.heap.size + 1 + 1, 0, none⟩ = some (.int .i64 0) := by simp [World.cell?, hWr.a]
  have e6 : w''.cell? ⟨w.heap.size + 1 + 1 + 1, 0, none⟩ = some (.string ⟨#[]⟩) := by simp [World.cell?, hWr.s]
  clear hWr
  refine ⟨.tuple #[fileV (.slice a4 cs.length c4) d.rule d.idx (.slice a5 d.kids.length c5), .int .i64 0, .int .i64 0, .string ⟨#[]⟩], ?_, ?_⟩
  · simp [results, Tryd.results21, go_sem, e0, e1, e2, e3, e4, e5, e6, fileV]
  · exact ⟨_, _, rfl, HREPC.out, HREPD.out, HP.out.2.2.1, HP.out.2.2.2, HBW.out⟩
end Go.Proofs.YtfpiogaakblpeaaDoor
