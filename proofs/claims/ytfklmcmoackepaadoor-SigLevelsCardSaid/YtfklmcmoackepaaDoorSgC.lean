/- The library's lines: walk of api.Library. Walk of (*sig.line).piece: the text of the term at the line's next token. Walk of sig.At: its state at the head of its loop. Walk of sig.At: its state behind its loop. -/
import Derived.Test.YtfklmcmoackepaaDoorYo
import Derived.Test.YtfklmcmoackepaaDoorSl
import Derived.Test.YtfklmcmoackepaaDoorSy
import Derived.Test.YtfklmcmoackepaaDoorSk3
import Derived.Test.YtfklmcmoackepaaDoorRt
import Derived.Great.Walk
namespace Go.Proofs.YtfklmcmoackepaaDoor
open Go.RowKit

/-- the texts that a code lays into a slice -/
def sliceVals : Code → List Value
  | .region _ ops _ => ops.toList.flatMap fun o => match o.op with
    | .buildSlice _ _ es => es.toList.map fun e => match e.2 with
      | .const v => v
      | _ => .string ByteArray.empty
    | _ => []
  | .seq a b => sliceVals a ++ sliceVals b
  | .block _ a => sliceVals a
  | .scope a => sliceVals a
  | _ => []
def funcVals (f : Func) : List Value := match f.body with
  | some c => sliceVals c
  | none => []
def textOf : Value → List UInt8
  | .string s => s.data.toList
  | _ => []
/-- line n of the library, n from 0 on -/
def lineText (f : Func) (n : Nat) : List UInt8 := textOf ((funcVals f).getD n (.string ByteArray.empty))
theorem lib_strings : (List.range 21).map (fun n => Value.string ⟨(lineText Tryd.f16 n).toArray⟩) = funcVals Tryd.f16 := by kernel_rfl


set_option maxHeartbeats 2000000 in
set_option maxRecDepth 100000 in
theorem library_any (w : World) : Calls Tryd.prog 16 #[] w fun e w' => e = .returned (.slice (some ⟨w.heap.size, 0, none⟩) 21 21) ∧ w' = w.alloc (.cells (funcVals Tryd.f16).toArray 9) := by
  go_enter Tryd.func16, Tryd.ntmps16
  go_wp2_with (refine Great.wpList_buildSliceTo rfl 42 9 21 _ rfl w.heap.size rfl (some 1) rfl Tryd.underlying42 (funcVals Tryd.f16).toArray (by kernel_rfl) ?_)
  go_ret
  exact ⟨rfl, rfl⟩
end Go.Proofs.YtfklmcmoackepaaDoor

namespace Go.Proofs.YtfklmcmoackepaaDoor
open Go.RowKit

/-- a line in block b, its next token k -/
structure Lx (text : ByteArray) (toks : List Tok) (lv : Value) (b : Nat) (w : World) (k : Nat) : Prop where
  cells : w.heap[b]? = some (.cells #[.string text, lv, .int .i64 k] 46 (0, 0))
  has : Has w 3 lv toks.length (toksCells toks)
  far : lv.ownBlock ≠ some b
section
variable {text : ByteArray} {toks : List Tok} {lv : Value} {b : Nat} {w w' : World} {k : Nat}
theorem Lx.lt (h : Lx text toks lv b w k) : b < w.heap.size := (Array.getElem?_eq_some_iff.1 h.cells).1
theorem Lx.fz (h : Lx text toks lv b w k) (j : Nat) : w.frozen? ⟨b, j, none⟩ = false := by simp [World.frozen?, h.cells]
theorem Lx.at (h : Lx text toks lv b w k) : w.cell? ⟨b, 0, none⟩ = some (.string text) ∧ w.cell? ⟨b, 1, none⟩ = some lv ∧ w.cell? ⟨b, 2, none⟩ = some (.int .i64 k) := by
  have hq : ∀ j : Nat, w.cell? ⟨b, j, none⟩ = (#[.string text, lv, .int .i64 k] : Array Value)[j]? := fun j => by simp [World.cell?, h.cells]
  exact ⟨hq 0, hq 1, hq 2⟩
theorem Lx.kept (h : Lx text toks lv b w k) (hb : Below w.heap.size w w') : Lx text toks lv b w' k :=
  ⟨by rw [hb.block b h.lt]; exact h.cells, h.has.grown (grown_below hb) h.far, h.far⟩
theorem Lx.drewN (h : Lx text toks lv b w k) (n : Nat) : Lx text toks lv b (w.drewN n) k :=
  ⟨h.cells, h.has.grown (grown_drewN (grown_refl _ (some b)) n) h.far, h.far⟩
theorem Lx.step (h : Lx text toks lv b w k) (k' : Nat) : Lx text toks lv b (w.setCell ⟨b, 2, none⟩ (.int .i64 k')) k' :=
  ⟨set1_at h.cells 2 _, h.has.grown (grown_set (grown_refl _ _) 2 _) h.far, h.far⟩
/-- the token that stands next -/
theorem Lx.tok (h : Lx text toks lv b w k) (_hk : k < toks.length) (x : Nat) (hx : x < toks.length) : ∃ bt o c, lv = .slice (some ⟨bt, o, none⟩) toks.length c ∧ toks.length ≤ 9223372036854775807 ∧ bt < w.heap.size ∧ bt ≠ b ∧
    w.cell? ⟨bt, o + x * 3, none⟩ = some (.int .i64 (kindAt toks x : Nat)) ∧ w.cell? ⟨bt, o + x * 3 + 1, none⟩ = some (.string ⟨(textAt toks x).toArray⟩) ∧ w.cell? ⟨bt, o + x * 3 + 2, none⟩ = some (.int .i64 (posAt toks x : Nat)) := by
  rcases h.has.2 with ⟨_, h0⟩ | ⟨bt, o, c, rfl, hn, hbt, hcells⟩
  · omega
  · unfold maxLen at hn
    have hat := toksCells_at toks x hx
    have hf := h.far
    refine ⟨bt, o, c, rfl, hn, hbt, fun he => hf (by simp [Value.ownBlock, he]), ?_, ?_, ?_⟩
    · rw [hcells (x * 3) (by omega), hat.1, kindAt_eq hx]
    · rw [Nat.add_assoc, hcells (x * 3 + 1) (by omega), hat.2.1, textAt_eq hx]
    · rw [Nat.add_assoc, hcells (x * 3 + 2) (by omega), hat.2.2]; simp [posAt, hx]
end

theorem pieceM_step {l : List Tok} {f k d e : Nat} (h : pieceM l f k d = some e) : k < l.length ∧ ∃ f', (kindAt l k = 1 ∧ pieceM l f' (k + 1) (d + 1) = some e ∨ kindAt l k = 2 ∧ d = 1 ∧ e = k + 1 ∨ kindAt l k = 2 ∧ 2 ≤ d ∧ pieceM l f' (k + 1) (d - 1) = some e ∨
    kindAt l k ≠ 1 ∧ kindAt l k ≠ 2 ∧ d = 0 ∧ e = k + 1 ∨ kindAt l k ≠ 1 ∧ kindAt l k ≠ 2 ∧ 1 ≤ d ∧ pieceM l f' (k + 1) d = some e) := by
  cases f with
  | zero => simp [pieceM] at h
  | succ f =>
    unfold pieceM at h
    by_cases h0 : l.length ≤ k
    · rw [if_pos h0] at h; cases h
    rw [if_neg h0] at h
    refine ⟨by omega, f, ?_⟩
    by_cases h1 : kindAt l k = 1
    · rw [if_pos h1] at h; exact .inl ⟨h1, h⟩
    rw [if_neg h1] at h
    by_cases h2 : kindAt l k = 2
    · rw [if_pos h2] at h
      by_cases h3 : d = 0
      · rw [if_pos h3] at h; cases h
      rw [if_neg h3] at h
      by_cases h4 : d = 1
      · rw [if_pos h4] at h; cases h; exact .inr (.inl ⟨h2, h4, rfl⟩)
      · rw [if_neg h4] at h; exact .inr (.inr (.inl ⟨h2, by omega, h⟩))
    · rw [if_neg h2] at h
      by_cases h3 : d = 0
      · rw [if_pos h3] at h; cases h; exact .inr (.inr (.inr (.inl ⟨h1, h2, h3, rfl⟩)))
      · rw [if_neg h3] at h; exact .inr (.inr (.inr (.inr ⟨h1, h2, by omega, h⟩)))

def measL (b len : Nat) (wr : World) : Nat := match wr.cell? ⟨b, 2, none⟩ with
  | some (.int _ q) => len + 1 - q.toNat
  | _ => 0
theorem measL_is {text : ByteArray} {toks : List Tok} {lv : Value} {b : Nat} {w : World} {k : Nat} (h : Lx text toks lv b w k) (len : Nat) : measL b len w = len + 1 - k := by
  unfold measL
  rw [h.at.2.2]
  simp

set_option maxHeartbeats 4000000 in
set_option maxRecDepth 100000 in
theorem piece_any {text : ByteArray} {toks : List Tok} {lv : Value} {b : Nat} {w : World} {a e : Nat} (h : Lx text toks lv b w a) (hp : pieceM toks toks.length a 0 = some e) (hlen : toks.length ≤ 1099511627776)
    (h1 : posAt toks a ≤ endAt toks e) (h2 : endAt toks e ≤ text.size) (hs : text.size ≤ 1099511627776) (hpos : ∀ k, posAt toks k ≤ 1099511627776) (htx : ∀ k, (textAt toks k).length ≤ 1099511627776) :
    Calls Tryd.prog 19 #[.pointer (some ⟨b, 0, none⟩)] w fun en w' => en = .returned (.string (text.extract (posAt toks a) (endAt toks e))) ∧ Lx text toks lv b w' e ∧ w.grownBy w' (some b) := by
  have H := Lib.hid h
  have HP := Lib.hid hp
  have HE := Lib.hid (And.intro h1 (And.intro h2 hs))
  have HPOS := Lib.hid hpos
  have HTX := Lib.hid htx
  have ha := (pieceM_step hp).1
  obtain ⟨bt, o, c, rfl, hn, hbt, hne, t0, t1, t2⟩ := h.tok ha a ha
  obtain ⟨c0, c1, c2⟩ := h.at
  have hd : decide (toks.length ≤ a) = false := by simp; omega
  have hd2 : decide ((toks.length : Int) ≤ (a : Int)) = false := by simp; omega
  have hd3 : (a : Int) < (toks.length : Int) := by omega
  clear h hp h1 h2 hs hpos htx
  generalize posAt toks a = pa at t2 HE
  go_enter Tryd.func19, Tryd.ntmps19
  go_wp2_with fail
  go_quiet (fail)
  go_wp2_with fail
  have HR0 := Lib.hid (H.out.drewN nq)
  have HG0 := Lib.hid (grown_drewN (grown_refl w (some b)) nq)
  clear c0 c1 c2 t0 t1 t2 hd hd2 hd3 hbt H
  go_loopw [4] (fun dv wr => ∃ (k d f : Nat), dv = .int .i64 d ∧ d ≤ k ∧ pieceM toks f k d = some e ∧ Lx text toks (.slice (some ⟨bt, o, none⟩) toks.length c) b wr k ∧ w.grownBy wr (some b)) (fun _ wr => measL b toks.length wr)
  case atStart => exact ⟨a, 0, toks.length, rfl, Nat.zero_le _, HP.out, HR0.out, HG0.out⟩
  case round =>
    obtain ⟨k, d, f, rfl, hdk, hpm, hlx, hg⟩ := hrel
    obtain ⟨hk, f', hst⟩ := pieceM_step hpm
    have HX := Lib.hid hlx
    have HG := Lib.hid hg
    have HST := Lib.hid hst
    have HM := Lib.hid (measL_is hlx toks.length)
    obtain ⟨bt', o', c', hlv, _, hbt, _, t0, t1, t2⟩ := hlx.tok hk k hk
    injection hlv with q1 q2 q3
    injection q1 with q1
    injection q1 with q1 q4
    subst q1 q4 q3
    have hwb := hlx.lt
    obtain ⟨c0, c1, c2⟩ := hlx.at
    have HKK : Hid (endAt toks (k + 1) = posAt toks k + (textAt toks k).length) := Lib.hid rfl
    have hps := HPOS.out k
    have htx := HTX.out k
    have hd : decide (toks.length ≤ k) = false := by simp; omega
    have hd2 : decide ((toks.length : Int) ≤ (k : Int)) = false := by simp; omega
    have hd3 : (k : Int) < (toks.length : Int) := by omega
    clear hpm hlx hg hst q2
    generalize posAt toks k = ps at t2 HKK hps
    generalize textAt toks k = tx at t1 HKK htx
    generalize kindAt toks k = kk at t0 HST
    go_wp2_with fail
    obtain ⟨a0, a1, a2, g0, g1, g2⟩ := fresh3 (w := wr) (t := 51) 1 (.int .i64 0) (.string ⟨#[]⟩) (.int .i64 0)
    have o0 := fresh_old (w := wr) (t := 51) 1 #[.int .i64 0, .string ⟨#[]⟩, .int .i64 0] (p := ⟨b, 0, none⟩) hwb
    have o1 := fresh_old (w := wr) (t := 51) 1 #[.int .i64 0, .string ⟨#[]⟩, .int .i64 0] (p := ⟨b, 1, none⟩) hwb
    have o2 := fresh_old (w := wr) (t := 51) 1 #[.int .i64 0, .string ⟨#[]⟩, .int .i64 0] (p := ⟨b, 2, none⟩) hwb
    have q0 := fresh_old (w := wr) (t := 51) 1 #[.int .i64 0, .string ⟨#[]⟩, .int .i64 0] (p := ⟨bt, o + k * 3, none⟩) hbt
    have q1 := fresh_old (w := wr) (t := 51) 1 #[.int .i64 0, .string ⟨#[]⟩, .int .i64 0] (p := ⟨bt, o + k * 3 + 1, none⟩) hbt
    have q2 := fresh_old (w := wr) (t := 51) 1 #[.int .i64 0, .string ⟨#[]⟩, .int .i64 0] (p := ⟨bt, o + k * 3 + 2, none⟩) hbt
    rw [c0] at o0
    rw [c1] at o1
    rw [c2] at o2
    rw [t0] at q0
    rw [t1] at q1
    rw [t2] at q2
    go_region
    go_upto_region 3 with fail
    obtain ⟨W, hW, hbW, e0, e1, e2⟩ : ∃ W, (wr.alloc (.cells #[.int .i64 kk, .string ⟨tx.toArray⟩, .int .i64 ps] 51)).drew = W ∧ Below wr.heap.size wr W ∧ W.cell? ⟨wr.heap.size, 0, none⟩ = some (.int .i64 kk) ∧ W.cell? ⟨wr.heap.size, 1, none⟩ = some (.string ⟨tx.toArray⟩) ∧ W.cell? ⟨wr.heap.size, 2, none⟩ = some (.int .i64 ps) := by
      have hh := new_heap wr #[.int .i64 kk, .string ⟨tx.toArray⟩, .int .i64 ps] 51
      refine ⟨_, rfl, (below_alloc _ _).drew, ?_, ?_, ?_⟩ <;> (simp only [World.cell?]; rw [drew_heap, hh]; rfl)
    rw [hW]
    have hXW := HX.out.kept hbW
    have HX1 := Lib.hid (hXW.step (k + 1))
    have HG1 : Hid (w.grownBy (W.setCell ⟨b, 2, none⟩ (.int .i64 ((k + 1 : Nat) : Int))) (some b)) := Lib.hid (grown_set (grown_trans HG.out (grown_below hbW)) 2 _)
    have HM1 := Lib.hid (measL_is HX1.out toks.length)
    obtain ⟨d0, d1, d2⟩ := hXW.at
    have f2 := hXW.fz 2
    have hbl := hXW.lt
    have hne2 : ¬ wr.heap.size = b := by omega
    have hne3 : ¬ b = wr.heap.size := by omega
    clear hXW hW hbW a0 a1 a2 g0 g1 g2 o0 o1 o2 q0 q1 q2 c0 c1 c2 t0 t1 t2
    obtain ⟨s0, s1, s2⟩ := HX1.out.at
    rcases HST.out with ⟨rfl, hp⟩ | ⟨rfl, rfl, he⟩ | ⟨rfl, hd2', hp⟩ | ⟨n1, n2, rfl, he⟩ | ⟨n1, n2, h1, hp⟩
    · have HP1 := Lib.hid hp
      clear hp
      go_wp2
      go_roundw
      case rel => exact ⟨k + 1, d + 1, f', by go_num, by omega, HP1.out, HX1.out, HG1.out⟩
      case measure => rw [HM.out]; have := HM1.out; simp only [Int.natCast_add, Int.natCast_one] at this; rw [this]; omega
    · subst he
      have HKE : Hid (pa ≤ ps + tx.length ∧ ps + tx.length ≤ text.size) := Lib.hid (by have h := HE.out; rw [HKK.out] at h; exact ⟨h.1, h.2.1⟩)
      go_wp2
      have z1 : (W.setCell ⟨b, 2, none⟩ (.int .i64 ((k : Int) + 1))).cell? ⟨wr.heap.size, 1, none⟩ = some (.string ⟨tx.toArray⟩) := by simp only [World.cell?]; rw [Below.heap_setCell _ _ _ _ hne2]; exact e1
      have z2 : (W.setCell ⟨b, 2, none⟩ (.int .i64 ((k : Int) + 1))).cell? ⟨wr.heap.size, 2, none⟩ = some (.int .i64 ps) := by simp only [World.cell?]; rw [Below.heap_setCell _ _ _ _ hne2]; exact e2
      simp only [Int.natCast_add, Int.natCast_one] at HX1 HG1 s0
      generalize W.setCell ⟨b, 2, none⟩ (.int .i64 ((k : Int) + 1)) = W1 at *
      have y1 : IntKind.i64.wrap ((ps : Int) + (tx.length : Int)) = (ps : Int) + (tx.length : Int) := by rw [IntKind.wrap_i64]; omega
      have y2 : (0 : Int) ≤ (ps : Int) + (tx.length : Int) := by omega
      have y3 : ((ps : Int) + (tx.length : Int)).toNat = ps + tx.length := by omega
      have y4 : pa ≤ ps + tx.length := HKE.out.1
      have y5 : ps + tx.length ≤ text.size := HKE.out.2
      have y6 : (pa : Int) ≤ (ps : Int) + (tx.length : Int) := by omega
      have y7 : (ps : Int) + (tx.length : Int) ≤ (text.size : Int) := by omega
      clear d0 d1 d2 e0 e1 e2 f2 s1 s2
      go_quiet (fail)
      go_wp2
      go_ret
      exact ⟨by rw [HKK.out]; rfl, HX1.out.drewN _, grown_drewN HG1.out _⟩
    · have HP1 := Lib.hid hp
      clear hp
      have hdd : ((d : Int) - 1 == 0) = false := by simp; omega
      have hdd2 : ((d - 1 : Nat) : Int) = (d : Int) - 1 := by omega
      have HDD := Lib.hid hdd2
      clear hdd2
      go_wp2
      go_roundw
      case rel => exact ⟨k + 1, d - 1, f', by rw [HDD.out], by omega, HP1.out, HX1.out, HG1.out⟩
      case measure => rw [HM.out]; have := HM1.out; simp only [Int.natCast_add, Int.natCast_one] at this; rw [this]; omega
    · have m1 : ((kk : Int) == 1) = false := by simp; omega
      have m2 : ((kk : Int) == 2) = false := by simp; omega
      subst he
      have HKE : Hid (pa ≤ ps + tx.length ∧ ps + tx.length ≤ text.size) := Lib.hid (by have h := HE.out; rw [HKK.out] at h; exact ⟨h.1, h.2.1⟩)
      go_wp2
      have z1 : (W.setCell ⟨b, 2, none⟩ (.int .i64 ((k : Int) + 1))).cell? ⟨wr.heap.size, 1, none⟩ = some (.string ⟨tx.toArray⟩) := by simp only [World.cell?]; rw [Below.heap_setCell _ _ _ _ hne2]; exact e1
      have z2 : (W.setCell ⟨b, 2, none⟩ (.int .i64 ((k : Int) + 1))).cell? ⟨wr.heap.size, 2, none⟩ = some (.int .i64 ps) := by simp only [World.cell?]; rw [Below.heap_setCell _ _ _ _ hne2]; exact e2
      simp only [Int.natCast_add, Int.natCast_one] at HX1 HG1 s0
      generalize W.setCell ⟨b, 2, none⟩ (.int .i64 ((k : Int) + 1)) = W1 at *
      have y1 : IntKind.i64.wrap ((ps : Int) + (tx.length : Int)) = (ps : Int) + (tx.length : Int) := by rw [IntKind.wrap_i64]; omega
      have y2 : (0 : Int) ≤ (ps : Int) + (tx.length : Int) := by omega
      have y3 : ((ps : Int) + (tx.length : Int)).toNat = ps + tx.length := by omega
      have y4 : pa ≤ ps + tx.length := HKE.out.1
      have y5 : ps + tx.length ≤ text.size := HKE.out.2
      have y6 : (pa : Int) ≤ (ps : Int) + (tx.length : Int) := by omega
      have y7 : (ps : Int) + (tx.length : Int) ≤ (text.size : Int) := by omega
      clear d0 d1 d2 e0 e1 e2 f2 s1 s2
      go_quiet (fail)
      go_wp2
      go_ret
      exact ⟨by rw [HKK.out]; rfl, HX1.out.drewN _, grown_drewN HG1.out _⟩
    · have m1 : ((kk : Int) == 1) = false := by simp; omega
      have m2 : ((kk : Int) == 2) = false := by simp; omega
      have hdd : ((d : Int) == 0) = false := by simp; omega
      have HP1 := Lib.hid hp
      clear hp
      go_wp2
      go_roundw
      case rel => exact ⟨k + 1, d, f', rfl, by omega, HP1.out, HX1.out, HG1.out⟩
      case measure => rw [HM.out]; have := HM1.out; simp only [Int.natCast_add, Int.natCast_one] at this; rw [this]; omega
end Go.Proofs.YtfklmcmoackepaaDoor

namespace Go.Proofs.YtfklmcmoackepaaDoor
open Go.RowKit

/-- a symbol's cells -/
def symCells (name : ByteArray) (pv : Value) (tk ti tj tn : Int) (tv : Value) (bk bi bj bn : Int) (bv : Value) (d : Bool) : Array Value :=
  #[.string name, pv, .int .i64 tk, .int .i64 ti, .int .i64 tj, .int .i64 tn, tv, .int .i64 bk, .int .i64 bi, .int .i64 bj, .int .i64 bn, bv, .bool d]
abbrev nilV : Value := .slice none 0 0

theorem line_parts {text : List UInt8} {i j : Nat} {s : LineM} (h : lineM text i j = some s) : ∃ toks, lexL text = (toks, none) ∧ kindAt toks 0 = 1 ∧ kindAt toks 1 = 3 ∧ kindAt toks 2 = 3 ∧ kindAt toks 3 = 1 ∧
    ∃ ps nm k ty bd, paramsM text toks i j toks.length 4 [] = some (ps, nm, k) ∧ kindAt toks k = 2 ∧ restM text toks i j nm (k + 1) = some (ty, bd) ∧ s = ⟨textAt toks 2, ps, ty, bd, decide (textAt toks 1 = wDef)⟩ := by
  unfold lineM at h
  dsimp only at h
  rcases hl : lexL text with ⟨toks, o⟩
  rw [hl] at h
  dsimp only at h
  split at h
  · cases h
  · rename_i h0
    simp only [ne_eq, not_or, Decidable.not_not] at h0
    obtain ⟨h1, h2, h3, h4, h5⟩ := h0
    subst h1
    split at h
    · cases h
    · rename_i ps nm k hp
      by_cases hk : kindAt toks k ≠ 2
      · rw [if_pos hk] at h; cases h
      rw [if_neg hk] at h
      split at h
      · cases h
      · rename_i ty bd hr
        cases h
        exact ⟨toks, rfl, h2, h3, h4, h5, ps, nm, k, ty, bd, hp, by omega, hr, rfl⟩

/-- the state behind some of the symbol's params: the line in block bl, the symbol in block bs -/
structure PA (text : ByteArray) (toks : List Tok) (lv : Value) (w : World) (bs : Nat) (name : ByteArray) (d : Bool) (nm : List (List UInt8)) (nv : Value) (rows : List (TT × Value)) (pv : Value) (wr : World) (k : Nat) : Prop where
  line : Lx text toks lv (w.heap.size + 2) wr k
  big : w.heap.size + 3 ≤ bs
  sym : wr.heap[bs]? = some (.cells (symCells name pv 0 0 0 0 nilV 0 0 0 0 nilV d) 26 (0, 0))
  res : wr.heap[w.heap.size]? = some (.cells (symCells ⟨#[]⟩ nilV 0 0 0 0 nilV 0 0 0 0 nilV false) 26 (0, 0))
  low : Below w.heap.size w wr
  names : wr.ownsRow (bs + 1) 9 1 nv nm.length (textRow nm)
  pars : wr.ownsRow (bs + 1) 24 5 pv rows.length (kidCells rows)
  apart : ∀ x, nv.ownBlock = some x → some x ≠ pv.ownBlock
  lfar : ∀ x, lv.ownBlock = some x → x < bs
  kids : ∀ p ∈ rows, RepTS wr (fun x => bs + 1 ≤ x ∧ some x ≠ nv.ownBlock ∧ some x ≠ pv.ownBlock) p.1.kids p.2 ∧ p.1.in4
section
variable {text : ByteArray} {toks : List Tok} {lv : Value} {w : World} {bs : Nat} {name : ByteArray} {d : Bool} {nm : List (List UInt8)} {nv : Value} {rows : List (TT × Value)} {pv : Value} {wr w6 : World} {k k' : Nat}
theorem PA.lt (h : PA text toks lv w bs name d nm nv rows pv wr k) : bs < wr.heap.size := (Array.getElem?_eq_some_iff.1 h.sym).1
/-- the line alone turns, and memory is made -/
theorem PA.move (h : PA text toks lv w bs name d nm nv rows pv wr k) (hl : Lx text toks lv (w.heap.size + 2) w6 k') (g : wr.grownBy w6 (some (w.heap.size + 2))) : PA text toks lv w bs name d nm nv rows pv w6 k' := by
  have hlt := h.lt
  have hbig := h.big
  refine { line := hl, big := h.big, sym := ?_, res := ?_, low := ?_, names := ?_, pars := ?_, apart := h.apart, lfar := h.lfar, kids := ?_ }
  · rw [g.block _ hlt (by simp; omega)]; exact h.sym
  · rw [g.block _ (by omega) (by simp)]; exact h.res
  · exact h.low.trans (below_of_grown g (by omega) h.low.size)
  · exact h.names.kept g (.inr (fun he => by have := (h.names.lt _ he).1; omega))
  · exact h.pars.kept g (.inr (fun he => by have := (h.pars.lt _ he).1; omega))
  · intro p hp
    obtain ⟨h1, h2⟩ := h.kids p hp
    exact ⟨h1.kept g.size fun x hx hxl => ⟨g.block x hxl (by simp; omega), hx⟩, h2⟩
theorem PA.below (h : PA text toks lv w bs name d nm nv rows pv wr k) (hb : Below wr.heap.size wr w6) : PA text toks lv w bs name d nm nv rows pv w6 k := h.move (h.line.kept hb) (grown_below hb)
theorem PA.drewN (h : PA text toks lv w bs name d nm nv rows pv wr k) (n : Nat) : PA text toks lv w bs name d nm nv rows pv (wr.drewN n) k := h.move (h.line.drewN n) (grown_drewN (grown_refl _ _) n)
theorem PA.step (h : PA text toks lv w bs name d nm nv rows pv wr k) (k' : Nat) : PA text toks lv w bs name d nm nv rows pv (wr.setCell ⟨w.heap.size + 2, 2, none⟩ (.int .i64 k')) k' := h.move (h.line.step k') (grown_set (grown_refl _ _) 2 _)
/-- a param more: appended, and laid into the symbol -/
theorem PA.pushT {wa w7 : World} (h : PA text toks lv w bs name d nm nv rows pv wa k) {B : Nat} (hB : ∀ x, pv.ownBlock = some x → x < B) (hN : ∀ x, nv.ownBlock = some x → x < B) (hDB : bs + 1 ≤ B) (_hBw : B ≤ wa.heap.size)
    {t : TT} {v1 : Value} (hrep : RepTS wa (fun x => B ≤ x) t.kids v1 ∧ t.in4) {g cap : Nat} (hgrow7 : wa.grownBy w7 pv.ownBlock) (hat : pv.ownBlock = some g ∨ g = wa.heap.size)
    (hown7 : w7.ownsRow (bs + 1) 24 5 (.slice (some ⟨g, 0, none⟩) (rows.length + 1) cap) (rows.length + 1) (kidCells rows ++ [.int .i64 t.kd, .int .i64 t.ni, .int .i64 t.nj, .int .i64 t.nn, v1])) :
    PA text toks lv w bs name d nm nv (rows ++ [(t, v1)]) (.slice (some ⟨g, 0, none⟩) (rows.length + 1) cap) (w7.setCell ⟨bs, 1, none⟩ (.slice (some ⟨g, 0, none⟩) (rows.length + 1) cap)) k := by
  have hlt := h.lt
  have hbig := h.big
  have hs7 := hgrow7.size
  have hplt := fun x hx => h.pars.lt x hx
  have hnlt := fun x hx => h.names.lt x hx
  have hg1 : bs + 1 ≤ g := by rcases hat with h1 | h1; exact (hplt g h1).1; omega
  have hss : ∀ v, (w7.setCell ⟨bs, 1, none⟩ v).heap.size = w7.heap.size := fun v => by simp [World.setCell]
  have gs : w7.grownBy (w7.setCell ⟨bs, 1, none⟩ (.slice (some ⟨g, 0, none⟩) (rows.length + 1) cap)) (some bs) := grown_set (grown_refl w7 (some bs)) 1 _
  have hx7 : ∀ x, x < wa.heap.size → some x ≠ pv.ownBlock → w7.heap[x]? = wa.heap[x]? := fun x h1 h3 => hgrow7.block x h1 h3
  have hx : ∀ x, x < wa.heap.size → some x ≠ pv.ownBlock → x ≠ bs → (w7.setCell ⟨bs, 1, none⟩ (.slice (some ⟨g, 0, none⟩) (rows.length + 1) cap)).heap[x]? = wa.heap[x]? := fun x h1 h3 h4 =>
    (Below.heap_setCell _ _ _ _ h4).trans (hx7 x h1 h3)
  have hlow : ∀ x, x < bs → (w7.setCell ⟨bs, 1, none⟩ (.slice (some ⟨g, 0, none⟩) (rows.length + 1) cap)).heap[x]? = wa.heap[x]? := fun x hl => hx x (by omega) (fun he => by have := hplt x he.symm; omega) (by omega)
  have hother : ∀ x, x < wa.heap.size → some x ≠ pv.ownBlock → some x ≠ (Value.slice (some ⟨g, 0, none⟩) (rows.length + 1) cap).ownBlock := fun x hxl h3 => by
    simp only [Value.ownBlock]
    rcases hat with h | h
    · rw [← h]; exact h3
    · simp; omega
  refine { line := ?_, big := hbig, sym := ?_, res := ?_, low := ?_, names := ?_, pars := ?_, apart := ?_, lfar := h.lfar, kids := ?_ }
  · exact ⟨by rw [hlow _ (by omega)]; exact h.line.cells, h.line.has.same (by rw [hss]; exact hs7) (fun x hxl => hlow x (h.lfar x hxl)), h.line.far⟩
  · have e : w7.heap[bs]? = _ := (hx7 bs hlt (fun he => by have := hplt bs he.symm; omega)).trans h.sym
    exact set1_at e 1 _
  · rw [hlow _ (by omega)]; exact h.res
  · have g := h.low
    exact Below.mk (gs.os.trans (hgrow7.os.trans g.os)) (gs.tape.trans (hgrow7.tape.trans g.tape)) (gs.output.trans (hgrow7.output.trans g.output)) (by rw [hss]; have := g.size; omega) (fun x hl => (hlow x (by omega)).trans (g.block x hl))
  · refine (h.names.kept hgrow7 ?_).kept gs (.inr (fun he => by have := (hnlt _ he).1; omega))
    rcases hq : nv.ownBlock with _ | x
    · exact .inl rfl
    · exact .inr (h.apart x hq)
  · have := hown7.kept gs (.inr (fun he => by simp only [Value.ownBlock, Option.some.injEq] at he; omega))
    simpa [kidCells_append, kidCells] using this
  · exact fun x hxn => hother x (hnlt x hxn).2 (h.apart x hxn)
  · intro p hp
    rcases List.mem_append.1 hp with hp | hp
    · obtain ⟨h1, h2⟩ := h.kids p hp
      exact ⟨h1.kept (by rw [hss]; exact hs7) fun x hx1 hxl => ⟨hx x hxl hx1.2.2 (by omega), hx1.1, hx1.2.1, hother x hxl hx1.2.2⟩, h2⟩
    · obtain rfl : p = (t, v1) := by simpa using hp
      obtain ⟨h1, h2⟩ := hrep
      exact ⟨h1.kept (by rw [hss]; exact hs7) fun x hx1 hxl => ⟨hx x hxl (fun he => by have := hB x he.symm; omega) (by omega), by omega, (fun he => by have := hN x he.symm; omega), hother x hxl (fun he => by have := hB x he.symm; omega)⟩, h2⟩
/-- a name more -/
theorem PA.pushN {wa w7 : World} (h : PA text toks lv w bs name d nm nv rows pv wa k) {s : List UInt8} {g cap : Nat} (hgrow7 : wa.grownBy w7 nv.ownBlock) (hat : nv.ownBlock = some g ∨ g = wa.heap.size)
    (hown7 : w7.ownsRow (bs + 1) 9 1 (.slice (some ⟨g, 0, none⟩) (nm.length + 1) cap) (nm.length + 1) (textRow nm ++ [.string ⟨s.toArray⟩])) :
    PA text toks lv w bs name d (nm ++ [s]) (.slice (some ⟨g, 0, none⟩) (nm.length + 1) cap) rows pv w7 k := by
  have hlt := h.lt
  have hbig := h.big
  have hs7 := hgrow7.size
  have hplt := fun x hx => h.pars.lt x hx
  have hnlt := fun x hx => h.names.lt x hx
  have hx : ∀ x, x < wa.heap.size → some x ≠ nv.ownBlock → w7.heap[x]? = wa.heap[x]? := fun x h1 h3 => hgrow7.block x h1 h3
  have hlow : ∀ x, x < bs + 1 → w7.heap[x]? = wa.heap[x]? := fun x hl => hx x (by omega) (fun he => by have := hnlt x he.symm; omega)
  have hother : ∀ x, x < wa.heap.size → some x ≠ nv.ownBlock → some x ≠ (Value.slice (some ⟨g, 0, none⟩) (nm.length + 1) cap).ownBlock := fun x hxl h3 => by
    simp only [Value.ownBlock]
    rcases hat with h | h
    · rw [← h]; exact h3
    · simp; omega
  refine { line := ?_, big := hbig, sym := ?_, res := ?_, low := ?_, names := ?_, pars := ?_, apart := ?_, lfar := h.lfar, kids := ?_ }
  · exact ⟨by rw [hlow _ (by omega)]; exact h.line.cells, h.line.has.same hs7 (fun x hxl => hlow x (by have := h.lfar x hxl; omega)), h.line.far⟩
  · rw [hlow _ (by omega)]; exact h.sym
  · rw [hlow _ (by omega)]; exact h.res
  · have g := h.low
    exact Below.mk (hgrow7.os.trans g.os) (hgrow7.tape.trans g.tape) (hgrow7.output.trans g.output) (by have := g.size; omega) (fun x hl => (hlow x (by omega)).trans (g.block x hl))
  · simpa [textRow] using hown7
  · refine h.pars.kept hgrow7 ?_
    rcases hq : pv.ownBlock with _ | x
    · exact .inl rfl
    · exact .inr (fun he => h.apart x he.symm hq.symm)
  · intro x hxn
    simp only [Value.ownBlock, Option.some.injEq] at hxn
    subst hxn
    rcases hat with h1 | h1
    · exact h.apart g h1
    · intro he
      have := (hplt _ he.symm).2
      omega
  · intro p hp
    obtain ⟨h1, h2⟩ := h.kids p hp
    exact ⟨h1.kept hs7 fun x hx1 hxl => ⟨hx x hxl hx1.2.1, hx1.1, hother x hxl hx1.2.1, hx1.2.2⟩, h2⟩
end
end Go.Proofs.YtfklmcmoackepaaDoor

namespace Go.Proofs.YtfklmcmoackepaaDoor
open Go.RowKit

/-- blocks from bs on stay -/
def Kp (bs : Nat) (w w' : World) : Prop := w.heap.size ≤ w'.heap.size ∧ ∀ x, bs ≤ x → x < w.heap.size → w'.heap[x]? = w.heap[x]?
theorem Kp.trans {bs : Nat} {a b c : World} (h : Kp bs a b) (g : Kp bs b c) : Kp bs a c := ⟨Nat.le_trans h.1 g.1, fun x h1 h2 => (g.2 x h1 (Nat.lt_of_lt_of_le h2 h.1)).trans (h.2 x h1 h2)⟩
theorem Kp.grown {bs b : Nat} {w w' : World} (g : w.grownBy w' (some b)) (hb : b < bs) : Kp bs w w' := ⟨g.size, fun x h1 h2 => g.block x h2 (by simp; omega)⟩
theorem Kp.below {bs : Nat} {w w' : World} (g : Below w.heap.size w w') : Kp bs w w' := ⟨g.size, fun x _ h2 => g.block x h2⟩
theorem Kp.drewN (bs : Nat) (w : World) (n : Nat) : Kp bs w (w.drewN n) := ⟨Nat.le_refl _, fun _ _ _ => rfl⟩
theorem Kp.set {bs b : Nat} (w : World) (j : Nat) (v : Value) (hb : b < bs) : Kp bs w (w.setCell ⟨b, j, none⟩ v) := Kp.grown (grown_set (grown_refl w (some b)) j v) hb
theorem RepTS.kp {bs : Nat} {w w' : World} {ks : List TT} {v : Value} (h : RepTS w (fun x => bs ≤ x) ks v) (g : Kp bs w w') : RepTS w' (fun x => bs ≤ x) ks v := h.kept g.1 fun x h1 h2 => ⟨g.2 x h1 h2, h1⟩

/-- thirteen cells of a block -/
theorem cells13 {W : World} {R : Nat} {a0 a1 a2 a3 a4 a5 a6 a7 a8 a9 a10 a11 a12 : Value} {T : TypeId} (h : W.heap[R]? = some (.cells #[a0, a1, a2, a3, a4, a5, a6, a7, a8, a9, a10, a11, a12] T (0, 0))) :
    W.cell? ⟨R, 0, none⟩ = some a0 ∧ W.cell? ⟨R, 1, none⟩ = some a1 ∧ W.cell? ⟨R, 2, none⟩ = some a2 ∧ W.cell? ⟨R, 3, none⟩ = some a3 ∧ W.cell? ⟨R, 4, none⟩ = some a4 ∧ W.cell? ⟨R, 5, none⟩ = some a5 ∧ W.cell? ⟨R, 6, none⟩ = some a6 ∧ W.cell? ⟨R, 7, none⟩ = some a7 ∧ W.cell? ⟨R, 8, none⟩ = some a8 ∧ W.cell? ⟨R, 9, none⟩ = some a9 ∧ W.cell? ⟨R, 10, none⟩ = some a10 ∧ W.cell? ⟨R, 11, none⟩ = some a11 ∧ W.cell? ⟨R, 12, none⟩ = some a12 ∧
    W.frozen? ⟨R, 0, none⟩ = false ∧ W.frozen? ⟨R, 1, none⟩ = false ∧ W.frozen? ⟨R, 2, none⟩ = false ∧ W.frozen? ⟨R, 3, none⟩ = false ∧ W.frozen? ⟨R, 4, none⟩ = false ∧ W.frozen? ⟨R, 5, none⟩ = false ∧ W.frozen? ⟨R, 6, none⟩ = false ∧ W.frozen? ⟨R, 7, none⟩ = false ∧ W.frozen? ⟨R, 8, none⟩ = false ∧ W.frozen? ⟨R, 9, none⟩ = false ∧ W.frozen? ⟨R, 10, none⟩ = false ∧ W.frozen? ⟨R, 11, none⟩ = false ∧ W.frozen? ⟨R, 12, none⟩ = false := by
  have hc : ∀ j : Nat, W.cell? ⟨R, j, none⟩ = (#[a0, a1, a2, a3, a4, a5, a6, a7, a8, a9, a10, a11, a12] : Array Value)[j]? := fun j => by simp [World.cell?, h]
  have hf : ∀ j : Nat, W.frozen? ⟨R, j, none⟩ = false := fun j => by simp [World.frozen?, h]
  exact ⟨hc 0, hc 1, hc 2, hc 3, hc 4, hc 5, hc 6, hc 7, hc 8, hc 9, hc 10, hc 11, hc 12, hf 0, hf 1, hf 2, hf 3, hf 4, hf 5, hf 6, hf 7, hf 8, hf 9, hf 10, hf 11, hf 12⟩
def set13 (W : World) (R : Nat) (a0 a1 a2 a3 a4 a5 a6 a7 a8 a9 a10 a11 a12 : Value) : World := (((((((((((((W.setCell ⟨R, 0, none⟩ a0).setCell ⟨R, 1, none⟩ a1).setCell ⟨R, 2, none⟩ a2).setCell ⟨R, 3, none⟩ a3).setCell ⟨R, 4, none⟩ a4).setCell ⟨R, 5, none⟩ a5).setCell ⟨R, 6, none⟩ a6).setCell ⟨R, 7, none⟩ a7).setCell ⟨R, 8, none⟩ a8).setCell ⟨R, 9, none⟩ a9).setCell ⟨R, 10, none⟩ a10).setCell ⟨R, 11, none⟩ a11).setCell ⟨R, 12, none⟩ a12)
theorem set13_at {W : World} {R : Nat} {z0 z1 z2 z3 z4 z5 z6 z7 z8 z9 z10 z11 z12 : Value} {T : TypeId} (h : W.heap[R]? = some (.cells #[z0, z1, z2, z3, z4, z5, z6, z7, z8, z9, z10, z11, z12] T (0, 0))) (a0 a1 a2 a3 a4 a5 a6 a7 a8 a9 a10 a11 a12 : Value) : (set13 W R a0 a1 a2 a3 a4 a5 a6 a7 a8 a9 a10 a11 a12).heap[R]? = some (.cells #[a0, a1, a2, a3, a4, a5, a6, a7, a8, a9, a10, a11, a12] T (0, 0)) := by
  have e0 : (W.setCell ⟨R, 0, none⟩ a0).heap[R]? = some (.cells #[a0, z1, z2, z3, z4, z5, z6, z7, z8, z9, z10, z11, z12] T (0, 0)) := set1_at h 0 a0
  have e1 : ((W.setCell ⟨R, 0, none⟩ a0).setCell ⟨R, 1, none⟩ a1).heap[R]? = some (.cells #[a0, a1, z2, z3, z4, z5, z6, z7, z8, z9, z10, z11, z12] T (0, 0)) := set1_at e0 1 a1
  have e2 : (((W.setCell ⟨R, 0, none⟩ a0).setCell ⟨R, 1, none⟩ a1).setCell ⟨R, 2, none⟩ a2).heap[R]? = some (.cells #[a0, a1, a2, z3, z4, z5, z6, z7, z8, z9, z10, z11, z12] T (0, 0)) := set1_at e1 2 a2
  have e3 : ((((W.setCell ⟨R, 0, none⟩ a0).setCell ⟨R, 1, none⟩ a1).setCell ⟨R, 2, none⟩ a2).setCell ⟨R, 3, none⟩ a3).heap[R]? = some (.cells #[a0, a1, a2, a3, z4, z5, z6, z7, z8, z9, z10, z11, z12] T (0, 0)) := set1_at e2 3 a3
  have e4 : (((((W.setCell ⟨R, 0, none⟩ a0).setCell ⟨R, 1, none⟩ a1).setCell ⟨R, 2, none⟩ a2).setCell ⟨R, 3, none⟩ a3).setCell ⟨R, 4, none⟩ a4).heap[R]? = some (.cells #[a0, a1, a2, a3, a4, z5, z6, z7, z8, z9, z10, z11, z12] T (0, 0)) := set1_at e3 4 a4
  have e5 : ((((((W.setCell ⟨R, 0, none⟩ a0).setCell ⟨R, 1, none⟩ a1).setCell ⟨R, 2, none⟩ a2).setCell ⟨R, 3, none⟩ a3).setCell ⟨R, 4, none⟩ a4).setCell ⟨R, 5, none⟩ a5).heap[R]? = some (.cells #[a0, a1, a2, a3, a4, a5, z6, z7, z8, z9, z10, z11, z12] T (0, 0)) := set1_at e4 5 a5
  have e6 : (((((((W.setCell ⟨R, 0, none⟩ a0).setCell ⟨R, 1, none⟩ a1).setCell ⟨R, 2, none⟩ a2).setCell ⟨R, 3, none⟩ a3).setCell ⟨R, 4, none⟩ a4).setCell ⟨R, 5, none⟩ a5).setCell ⟨R, 6, none⟩ a6).heap[R]? = some (.cells #[a0, a1, a2, a3, a4, a5, a6, z7, z8, z9, z10, z11, z12] T (0, 0)) := set1_at e5 6 a6
  have e7 : ((((((((W.setCell ⟨R, 0, none⟩ a0).setCell ⟨R, 1, none⟩ a1).setCell ⟨R, 2, none⟩ a2).setCell ⟨R, 3, none⟩ a3).setCell ⟨R, 4, none⟩ a4).setCell ⟨R, 5, none⟩ a5).setCell ⟨R, 6, none⟩ a6).setCell ⟨R, 7, none⟩ a7).heap[R]? = some (.cells #[a0, a1, a2, a3, a4, a5, a6, a7, z8, z9, z10, z11, z12] T (0, 0)) := set1_at e6 7 a7
  have e8 : (((((((((W.setCell ⟨R, 0, none⟩ a0).setCell ⟨R, 1, none⟩ a1).setCell ⟨R, 2, none⟩ a2).setCell ⟨R, 3, none⟩ a3).setCell ⟨R, 4, none⟩ a4).setCell ⟨R, 5, none⟩ a5).setCell ⟨R, 6, none⟩ a6).setCell ⟨R, 7, none⟩ a7).setCell ⟨R, 8, none⟩ a8).heap[R]? = some (.cells #[a0, a1, a2, a3, a4, a5, a6, a7, a8, z9, z10, z11, z12] T (0, 0)) := set1_at e7 8 a8
  have e9 : ((((((((((W.setCell ⟨R, 0, none⟩ a0).setCell ⟨R, 1, none⟩ a1).setCell ⟨R, 2, none⟩ a2).setCell ⟨R, 3, none⟩ a3).setCell ⟨R, 4, none⟩ a4).setCell ⟨R, 5, none⟩ a5).setCell ⟨R, 6, none⟩ a6).setCell ⟨R, 7, none⟩ a7).setCell ⟨R, 8, none⟩ a8).setCell ⟨R, 9, none⟩ a9).heap[R]? = some (.cells #[a0, a1, a2, a3, a4, a5, a6, a7, a8, a9, z10, z11, z12] T (0, 0)) := set1_at e8 9 a9
  have e10 : (((((((((((W.setCell ⟨R, 0, none⟩ a0).setCell ⟨R, 1, none⟩ a1).setCell ⟨R, 2, none⟩ a2).setCell ⟨R, 3, none⟩ a3).setCell ⟨R, 4, none⟩ a4).setCell ⟨R, 5, none⟩ a5).setCell ⟨R, 6, none⟩ a6).setCell ⟨R, 7, none⟩ a7).setCell ⟨R, 8, none⟩ a8).setCell ⟨R, 9, none⟩ a9).setCell ⟨R, 10, none⟩ a10).heap[R]? = some (.cells #[a0, a1, a2, a3, a4, a5, a6, a7, a8, a9, a10, z11, z12] T (0, 0)) := set1_at e9 10 a10
  have e11 : ((((((((((((W.setCell ⟨R, 0, none⟩ a0).setCell ⟨R, 1, none⟩ a1).setCell ⟨R, 2, none⟩ a2).setCell ⟨R, 3, none⟩ a3).setCell ⟨R, 4, none⟩ a4).setCell ⟨R, 5, none⟩ a5).setCell ⟨R, 6, none⟩ a6).setCell ⟨R, 7, none⟩ a7).setCell ⟨R, 8, none⟩ a8).setCell ⟨R, 9, none⟩ a9).setCell ⟨R, 10, none⟩ a10).setCell ⟨R, 11, none⟩ a11).heap[R]? = some (.cells #[a0, a1, a2, a3, a4, a5, a6, a7, a8, a9, a10, a11, z12] T (0, 0)) := set1_at e10 11 a11
  have e12 : (((((((((((((W.setCell ⟨R, 0, none⟩ a0).setCell ⟨R, 1, none⟩ a1).setCell ⟨R, 2, none⟩ a2).setCell ⟨R, 3, none⟩ a3).setCell ⟨R, 4, none⟩ a4).setCell ⟨R, 5, none⟩ a5).setCell ⟨R, 6, none⟩ a6).setCell ⟨R, 7, none⟩ a7).setCell ⟨R, 8, none⟩ a8).setCell ⟨R, 9, none⟩ a9).setCell ⟨R, 10, none⟩ a10).setCell ⟨R, 11, none⟩ a11).setCell ⟨R, 12, none⟩ a12).heap[R]? = some (.cells #[a0, a1, a2, a3, a4, a5, a6, a7, a8, a9, a10, a11, a12] T (0, 0)) := set1_at e11 12 a12
  exact e12
theorem set13_other (W : World) (R : Nat) (a0 a1 a2 a3 a4 a5 a6 a7 a8 a9 a10 a11 a12 : Value) {x : Nat} (hx : x ≠ R) : (set13 W R a0 a1 a2 a3 a4 a5 a6 a7 a8 a9 a10 a11 a12).heap[x]? = W.heap[x]? := by
  have e : ∀ (V : World) (j : Nat) (v : Value), (V.setCell ⟨R, j, none⟩ v).heap[x]? = V.heap[x]? := fun V j v => Below.heap_setCell _ _ _ _ hx
  unfold set13
  simp only [e]
theorem set13_size (W : World) (R : Nat) (a0 a1 a2 a3 a4 a5 a6 a7 a8 a9 a10 a11 a12 : Value) : (set13 W R a0 a1 a2 a3 a4 a5 a6 a7 a8 a9 a10 a11 a12).heap.size = W.heap.size := by simp [set13, World.setCell]
theorem set13_grown (W : World) (R : Nat) (a0 a1 a2 a3 a4 a5 a6 a7 a8 a9 a10 a11 a12 : Value) : W.grownBy (set13 W R a0 a1 a2 a3 a4 a5 a6 a7 a8 a9 a10 a11 a12) (some R) :=
  grown_set (grown_set (grown_set (grown_set (grown_set (grown_set (grown_set (grown_set (grown_set (grown_set (grown_set (grown_set (grown_set (grown_refl _ _) 0 _) 1 _) 2 _) 3 _) 4 _) 5 _) 6 _) 7 _) 8 _) 9 _) 10 _) 11 _) 12 _

/-- the state behind the loop; the symbol's cells are cs -/
structure PB (text : ByteArray) (toks : List Tok) (lv : Value) (w : World) (bs : Nat) (nm : List (List UInt8)) (nv : Value) (cs : Array Value) (wr : World) (k : Nat) : Prop where
  line : Lx text toks lv (w.heap.size + 2) wr k
  big : w.heap.size + 3 ≤ bs
  sym : wr.heap[bs]? = some (.cells cs 26 (0, 0))
  res : wr.heap[w.heap.size]? = some (.cells (symCells ⟨#[]⟩ nilV 0 0 0 0 nilV 0 0 0 0 nilV false) 26 (0, 0))
  low : Below w.heap.size w wr
  names : Has wr 1 nv nm.length (textRow nm)
  nfar : ∀ x, nv.ownBlock = some x → bs + 1 ≤ x
  lfar : ∀ x, lv.ownBlock = some x → x < bs
section
variable {text : ByteArray} {toks : List Tok} {lv : Value} {w : World} {bs : Nat} {nm : List (List UInt8)} {nv : Value} {cs : Array Value} {wr w6 : World} {k k' : Nat}
theorem PB.lt (h : PB text toks lv w bs nm nv cs wr k) : bs < wr.heap.size := (Array.getElem?_eq_some_iff.1 h.sym).1
theorem PB.move (h : PB text toks lv w bs nm nv cs wr k) (hl : Lx text toks lv (w.heap.size + 2) w6 k') (g : wr.grownBy w6 (some (w.heap.size + 2))) : PB text toks lv w bs nm nv cs w6 k' := by
  have hlt := h.lt
  have hbig := h.big
  refine { line := hl, big := h.big, sym := ?_, res := ?_, low := ?_, names := ?_, nfar := h.nfar, lfar := h.lfar }
  · rw [g.block _ hlt (by simp; omega)]; exact h.sym
  · rw [g.block _ (by omega) (by simp)]; exact h.res
  · exact h.low.trans (below_of_grown g (by omega) h.low.size)
  · exact h.names.grown g (fun he => by have := h.nfar _ he; omega)
theorem PB.below (h : PB text toks lv w bs nm nv cs wr k) (hb : Below wr.heap.size wr w6) : PB text toks lv w bs nm nv cs w6 k := h.move (h.line.kept hb) (grown_below hb)
theorem PB.drewN (h : PB text toks lv w bs nm nv cs wr k) (n : Nat) : PB text toks lv w bs nm nv cs (wr.drewN n) k := h.move (h.line.drewN n) (grown_drewN (grown_refl _ _) n)
theorem PB.step (h : PB text toks lv w bs nm nv cs wr k) (k' : Nat) : PB text toks lv w bs nm nv cs (wr.setCell ⟨w.heap.size + 2, 2, none⟩ (.int .i64 k')) k' := h.move (h.line.step k') (grown_set (grown_refl _ _) 2 _)
/-- the symbol alone turns -/
theorem PB.set (h : PB text toks lv w bs nm nv cs wr k) (j : Nat) (v : Value) : PB text toks lv w bs nm nv (cs.setIfInBounds j v) (wr.setCell ⟨bs, j, none⟩ v) k := by
  have hlt := h.lt
  have hbig := h.big
  have hx : ∀ x, x ≠ bs → (wr.setCell ⟨bs, j, none⟩ v).heap[x]? = wr.heap[x]? := fun x hx => Below.heap_setCell _ _ _ _ hx
  have hss : (wr.setCell ⟨bs, j, none⟩ v).heap.size = wr.heap.size := by simp [World.setCell]
  refine { line := ?_, big := h.big, sym := set1_at h.sym j v, res := ?_, low := ?_, names := ?_, nfar := h.nfar, lfar := h.lfar }
  · exact ⟨by rw [hx _ (by omega)]; exact h.line.cells, h.line.has.same (by rw [hss]; exact Nat.le_refl _) (fun x hxl => hx x (by have := h.lfar x hxl; omega)), h.line.far⟩
  · rw [hx _ (by omega)]; exact h.res
  · exact h.low.setCell (p := ⟨bs, j, none⟩) (by show w.heap.size ≤ bs; omega) v
  · exact h.names.same (by rw [hss]; exact Nat.le_refl _) (fun x hxn => hx x (by have := h.nfar x hxn; omega))
end
/-- at the loop's end -/
theorem PA.done {text : ByteArray} {toks : List Tok} {lv : Value} {w : World} {bs : Nat} {name : ByteArray} {d : Bool} {nm : List (List UInt8)} {nv : Value} {rows : List (TT × Value)} {pv : Value} {wr : World} {k : Nat} (h : PA text toks lv w bs name d nm nv rows pv wr k) :
    PB text toks lv w bs nm nv (symCells name pv 0 0 0 0 nilV 0 0 0 0 nilV d) wr k ∧ RepTS wr (fun x => bs + 1 ≤ x) (rows.map Prod.fst) pv :=
  ⟨{ line := h.line, big := h.big, sym := h.sym, res := h.res, low := h.low, names := Has.of_owns h.names, nfar := fun x hx => (h.names.lt x hx).1, lfar := h.lfar },
   repTS_of_owns h.pars (fun g hg => (h.pars.lt g hg).1) fun p hp => by
    obtain ⟨h1, h2⟩ := h.kids p hp
    exact ⟨h1.kept (Nat.le_refl _) fun x hx _ => ⟨rfl, hx.1⟩, h2⟩⟩
theorem rest_parts {text : List UInt8} {l : List Tok} {i j : Nat} {nm : List (List UInt8)} {k : Nat} {ty bd : TT} (h : restM text l i j nm k = some (ty, bd)) :
    ∃ k2, oneM text l nm i j k = some (ty, k2) ∧ ((textAt l 1 = wDef ∧ ∃ k3, oneM text l nm i j k2 = some (bd, k3) ∧ kindAt l k3 = 2) ∨ (textAt l 1 ≠ wDef ∧ bd = zeroT ∧ kindAt l k2 = 2)) := by
  unfold restM at h
  split at h
  · cases h
  · rename_i ty1 k2 h1
    by_cases hd : textAt l 1 = wDef
    · rw [if_pos hd] at h
      split at h
      · cases h
      · rename_i bd1 k3 h3
        split at h
        · rename_i hk
          cases h
          exact ⟨k2, h1, .inl ⟨hd, k3, h3, hk⟩⟩
        · cases h
    · rw [if_neg hd] at h
      split at h
      · rename_i hk
        cases h
        exact ⟨k2, h1, .inr ⟨hd, rfl, hk⟩⟩
      · cases h
end Go.Proofs.YtfklmcmoackepaaDoor
