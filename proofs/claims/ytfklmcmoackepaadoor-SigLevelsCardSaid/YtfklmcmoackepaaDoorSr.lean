/- Bound of a term's text; walk of write.Write. Walks of write.Names, transhipref09.VNames, transhipkeep.Texts. The reader of read: its block; walks of fail and next. -/
import Derived.Test.YtfklmcmoackepaaDoorTy
import Derived.Test.YtfklmcmoackepaaDoorRefPut
import Derived.Test.YtfklmcmoackepaaDoorSf
import Derived.Test.YtfklmcmoackepaaDoorLexD
namespace Go.Proofs.YtfklmcmoackepaaDoor
open Go.RowKit

theorem numbers_in {k i j n : Int} (_h1 : 1 ≤ k) (_h2 : k ≤ 23) (h : numbersB k i j n = true) : In64 i ∧ In64 j := by
  unfold numbersB levelB at h
  by_cases g1 : k = 1 ∨ k = 10 ∨ k = 11 ∨ k = 12
  · rw [if_pos g1] at h; simp at h; exact ⟨⟨by omega, by omega⟩, ⟨by omega, by omega⟩⟩
  rw [if_neg g1] at h
  by_cases g2 : k = 2
  · rw [if_pos g2] at h; simp at h; exact ⟨⟨by omega, by omega⟩, ⟨by omega, by omega⟩⟩
  rw [if_neg g2] at h
  by_cases g3 : k = 3 ∨ k = 4 ∨ k = 5 ∨ k = 6 ∨ k = 7 ∨ k = 8 ∨ k = 9
  · rw [if_pos g3] at h; simp at h; exact ⟨⟨by omega, by omega⟩, ⟨by omega, by omega⟩⟩
  rw [if_neg g3] at h
  by_cases g4 : k = 23
  · rw [if_pos g4] at h; simp at h; exact ⟨⟨by omega, by omega⟩, ⟨by omega, by omega⟩⟩
  rw [if_neg g4] at h
  simp at h; exact ⟨⟨by omega, by omega⟩, ⟨by omega, by omega⟩⟩
theorem pcJ_le (k : Int) {m : Int} (x : Nat) (h0 : 0 ≤ m) (h1 : m ≤ 1099511627776) : (pcJ k m x).length ≤ 44 := by
  have a := nameL_le (n := m) ⟨by omega, by omega⟩
  have b := nameL_le (n := m + 1) ⟨by omega, by omega⟩
  unfold pcJ
  split <;> simp <;> omega
theorem writeTs_cons (k m : Int) (x : Nat) (t : TT) (ts : List TT) : writeTs k m x (t :: ts) = pcJ k m x ++ 32 :: (writeT t (m + bindsK k x) ++ writeTs k m (x + 1) ts) := by simp [writeTs, pcJ]
mutual
theorem writeT_le : ∀ (t : TT) (m w : Int), 0 ≤ m → m + 2 * sizeT t ≤ 1099511627776 → rightT t w = true → (writeT t m).length + 50 ≤ 200 * sizeT t
  | .node k i j n ks, m, w, h0, h1, h => by
    obtain ⟨r1, r2, r3⟩ := rightT_parts h
    obtain ⟨hk1, hk23⟩ := kidsK_in r1
    by_cases hk : k = 2
    · subst hk
      rw [show numbersB 2 i j n = (decide (0 ≤ i) && decide (i ≤ 2147483647) && j == 0 && n == 0) from rfl] at r2
      simp only [Bool.and_eq_true, decide_eq_true_eq] at r2
      simp only [sizeT] at h1 ⊢
      have := nameL_le (n := m - 1 - i) ⟨by omega, by omega⟩
      simp only [writeT]
      simp
      omega
    · simp only [sizeT] at h1 ⊢
      rw [writeT_open hk]
      have a1 := wordF_le k n
      obtain ⟨hi, hj⟩ := numbers_in hk1 hk23 r2
      have a2 : (pc1 k i).length ≤ 21 := by have := itoa_le hi; unfold pc1; split <;> simp <;> omega
      have a3 : (pc2 k j).length ≤ 21 := by have := itoa_le hj; unfold pc2; split <;> simp <;> omega
      have a4 : (pc3 k m).length ≤ 22 := by have := nameL_le (n := m) ⟨by omega, by omega⟩; unfold pc3; split <;> simp <;> omega
      have a5 := writeTs_le k m 0 ks h0 (by omega) r3
      simp
      omega
theorem writeTs_le : ∀ (k m : Int) (x : Nat) (ks : List TT), 0 ≤ m → m + 2 * (1 + sizeTs ks) ≤ 1099511627776 → rightTs k x ks = true → (writeTs k m x ks).length ≤ 200 * sizeTs ks
  | _, _, _, [], _, _, _ => by simp [writeTs]
  | k, m, x, t :: ts, h0, h1, h => by
    simp only [rightTs, Bool.and_eq_true] at h
    simp only [sizeTs] at h1 ⊢
    have hb := bindsK_in k x
    have a1 := writeT_le t (m + bindsK k x) _ (by omega) (by omega) h.1
    have a2 := writeTs_le k m (x + 1) ts h0 (by omega) h.2
    have a3 := pcJ_le k x h0 (by omega : m ≤ 1099511627776)
    rw [writeTs_cons]
    simp
    omega
end
theorem sizeT_pos : ∀ (t : TT), 1 ≤ sizeT t
  | .node k i j n ks => by simp only [sizeT]; omega
/-- write.Write -/
def writeW (t : TT) (m : Int) : List UInt8 := if m < 0 ∨ 1000000 < m ∨ rightT t 0 = false ∨ m < freeOf t then [] else writeT t m
theorem writeW_in {t : TT} {m : Int} (h1 : 0 ≤ m) (h2 : m ≤ 1000000) (h3 : rightT t 0 = true) (h4 : ¬ m < freeOf t) : writeW t m = writeT t m := by
  unfold writeW
  rw [if_neg]
  rintro (h | h | h | h)
  · omega
  · omega
  · rw [h3] at h; cases h
  · exact h4 h

end Go.Proofs.YtfklmcmoackepaaDoor

namespace Go.Proofs.YtfklmcmoackepaaDoor
open Go.RowKit

theorem Tryd.infoStr : (Tryd.prog.info? 9).map (fun i => (i.zero, i.size, i.bytes)) = some (some (.string ByteArray.empty), 1, 16) := by kernel_rfl
theorem row_below {w w1 : World} {base : Nat} {e : TypeId} {size : Nat} {v : Value} {n : Nat} {xs : List Value} (h : w.ownsRow base e size v n xs) (hb : Below w.heap.size w w1) : w1.ownsRow base e size v n xs := by
  refine ⟨h.1, ?_⟩
  rcases h.2 with h2 | ⟨g, cap, cur, rfl, hg, hh, hr⟩
  · exact .inl h2
  · have hlt : g < w.heap.size := (Array.getElem?_eq_some_iff.1 hh).1
    exact .inr ⟨g, cap, cur, rfl, hg, by rw [hb.block g hlt]; exact hh, hr⟩
theorem row_lit {w : World} {e : TypeId} {size : Nat} (w0 : World) (cs : Array Value) (b n : Nat) (hb : b = w0.heap.size) (hm : n ≤ maxLen) (hs : cs.size = n * size) (hw : w = w0.alloc (.cells cs e) := by rfl) :
    Has w size (.slice (some ⟨b, 0, none⟩) n n) n cs.toList := by
  subst hb
  subst hw
  exact Has.of_owns (World.ownsRow_lit (base := 0) w0 cs n (Nat.zero_le _) hm hs)

def textRow (l : List (List UInt8)) : List Value := l.map fun x => .string ⟨x.toArray⟩
def namesL (n : Nat) : List (List UInt8) := (List.range n).map fun (j : Nat) => nameL j
theorem namesL_succ (q : Nat) : namesL (q + 1) = namesL q ++ [nameL q] := by simp [namesL, List.range_succ]
theorem textRow_append (a b : List (List UInt8)) : textRow (a ++ b) = textRow a ++ textRow b := by simp [textRow]
theorem textRow_len (l : List (List UInt8)) : (textRow l).length = l.length := by simp [textRow]
theorem namesL_len (n : Nat) : (namesL n).length = n := by simp [namesL]

theorem row_step {q n : Nat} {rest : List Value} (h : rest.length = n - q) (hq : q < n) : ∃ r0 rest', rest = r0 :: rest' ∧ rest'.length = n - (q + 1) ∧ (textRow (namesL q) ++ rest)[q]? = some r0 ∧ (textRow (namesL q) ++ rest).set q (.string ⟨(nameL q).toArray⟩) = textRow (namesL (q + 1)) ++ rest' := by
  cases rest with
  | nil => simp at h; omega
  | cons r0 rest' =>
    have hl : (textRow (namesL q)).length = q := by rw [textRow_len, namesL_len]
    refine ⟨r0, rest', rfl, by simp at h; omega, ?_, ?_⟩
    · rw [List.getElem?_append_right (by omega), hl]; simp
    · rw [List.set_append_right _ _ (by omega), hl, namesL_succ, textRow_append]
      simp [textRow]




end Go.Proofs.YtfklmcmoackepaaDoor

namespace Go.Proofs.YtfklmcmoackepaaDoor
open Go.RowKit

theorem grown_refl (w : World) (r : Option Nat) : w.grownBy w r := ⟨rfl, rfl, rfl, Nat.le_refl _, fun _ _ _ => rfl⟩
theorem grown_trans {a c d : World} {r : Option Nat} (h : a.grownBy c r) (k : c.grownBy d r) : a.grownBy d r :=
  ⟨k.os.trans h.os, k.tape.trans h.tape, k.output.trans h.output, Nat.le_trans h.size k.size, fun i hi hr => (k.block i (Nat.lt_of_lt_of_le hi h.size) hr).trans (h.block i hi hr)⟩
theorem grown_below {a c : World} {r : Option Nat} (h : Below a.heap.size a c) : a.grownBy c r := ⟨h.os, h.tape, h.output, h.size, fun i hi _ => h.block i hi⟩
theorem grown_drewN {a c : World} {r : Option Nat} (h : a.grownBy c r) (m : Nat) : a.grownBy (c.drewN m) r := ⟨h.os, h.tape, h.output, h.size, h.block⟩
theorem grown_set {a c : World} {b : Nat} (h : a.grownBy c (some b)) (j : Nat) (v : Value) : a.grownBy (c.setCell ⟨b, j, none⟩ v) (some b) :=
  grown_trans h ⟨rfl, rfl, rfl, by simp [World.setCell], fun k _ hk => Below.heap_setCell _ _ _ _ (fun e => hk (by simp [e]))⟩
theorem below_of_grown {a c : World} {b B : Nat} (h : a.grownBy c (some b)) (hB : B ≤ b) (hs : B ≤ a.heap.size) : Below B a c :=
  ⟨h.os, h.tape, h.output, h.size, fun k hk => h.block k (by omega) (by simp; omega)⟩
theorem Has.grown {w w' : World} {size : Nat} {v : Value} {n : Nat} {xs : List Value} {b : Nat} (h : Has w size v n xs) (hg : w.grownBy w' (some b)) (hne : v.ownBlock ≠ some b) : Has w' size v n xs := by
  refine ⟨h.1, ?_⟩
  rcases h.2 with h2 | ⟨g, o, c, rfl, hn, hb, hc⟩
  · exact .inl h2
  · have hgb : w'.heap[g]? = w.heap[g]? := hg.block g hb (by simpa [Value.ownBlock] using hne)
    exact .inr ⟨g, o, c, rfl, hn, Nat.lt_of_lt_of_le hb hg.size, fun j hj => by rw [← hc j hj]; simp only [World.cell?, hgb]⟩

/-- reading goes on at a token, or the token at fault is known -/
inductive Md where
  | ok (k : Nat)
  | bad (k : Nat)
def Md.isBad : Md → Bool
  | .ok _ => false
  | .bad _ => true
def Md.fail (x : Nat) : Md → Md
  | .ok _ => .bad x
  | .bad k => .bad k
/-- what comes of it -/
def RR.md {α : Type} : RR α → Md
  | .ok _ k => .ok k
  | .bad k => .bad k
def Md.go {α : Type} (m : Md) (f : Nat → RR α) : RR α :=
  match m with
  | .ok k => f k
  | .bad k => .bad k

def rrCells (lv : Value) (k en : Int) (nv : Value) (i j : Int) (bad : Bool) (x : Int) : Array Value := #[lv, .int .i64 k, .int .i64 en, nv, .int .i64 i, .int .i64 j, .bool bad, .int .i64 x]
def placeT (toks : List Tok) (k : Nat) (en : Int) : Int := match toks[k]? with | some t => t.pos | none => en
theorem placeT_lt {toks : List Tok} {k : Nat} {en : Int} (h : k < toks.length) : placeT toks k en = toks[k].pos := by simp [placeT, h]
theorem placeT_ge {toks : List Tok} {k : Nat} {en : Int} (h : toks.length ≤ k) : placeT toks k en = en := by simp [placeT, List.getElem?_eq_none h]
/-- the cells that tell the mode -/
def MdCells (E : REnv) (en : Int) (kk x : Int) : Md → Prop
  | .ok k => kk = k ∧ k ≤ E.l.length ∧ x = 0
  | .bad k => x = placeT E.l k en ∧ 0 ≤ kk ∧ kk ≤ E.l.length

/-- the table lies below block b -/
def TabB (b : Nat) (w : World) : Prop := ∃ w0 : World, Tab w0 ∧ Below w0.heap.size w0 w ∧ w0.heap.size ≤ b
theorem TabB.grown {b : Nat} {w w' : World} (h : TabB b w) (g : w.grownBy w' (some b)) : TabB b w' := by
  obtain ⟨w0, h1, h2, h3⟩ := h
  exact ⟨w0, h1, h2.trans (below_of_grown g h3 h2.size), h3⟩
theorem TabB.tab {b : Nat} {w : World} (h : TabB b w) : Tab w := by
  obtain ⟨w0, h1, h2, h3⟩ := h
  exact h1.below h2

/-- the reader in block b -/
structure Rr (E : REnv) (lv : Value) (en : Int) (b : Nat) (w : World) (nv : Value) (nm : List (List UInt8)) (m : Md) : Prop where
  cells : ∃ kk x, w.heap[b]? = some (.cells (rrCells lv kk en nv E.i E.j m.isBad x) 70 (0, 0)) ∧ MdCells E en kk x m
  has : Has w 3 lv E.l.length (toksCells E.l)
  far : lv.ownBlock ≠ some b
  hasN : Has w 1 nv nm.length (textRow nm)
  farN : nv.ownBlock ≠ some b
  short : ∀ k, (textAt E.l k).length ≤ 1099511627776
  len : E.l.length ≤ 1099511627776
  lev : E.i ≤ 1000 ∧ E.j ≤ 1000
  tab : TabB b w

section
variable {E : REnv} {lv : Value} {en : Int} {b : Nat} {w w' : World} {nv : Value} {nm : List (List UInt8)} {m m' : Md}
theorem Rr.lt (h : Rr E lv en b w nv nm m) : b < w.heap.size := by obtain ⟨kk, x, hc, _⟩ := h.cells; exact (Array.getElem?_eq_some_iff.1 hc).1
theorem Rr.fz (h : Rr E lv en b w nv nm m) (j : Nat) : w.frozen? ⟨b, j, none⟩ = false := by obtain ⟨kk, x, hc, _⟩ := h.cells; simp [World.frozen?, hc]
theorem Rr.kept (h : Rr E lv en b w nv nm m) (hb : Below w.heap.size w w') : Rr E lv en b w' nv nm m := by
  obtain ⟨kk, x, hc, hm⟩ := h.cells
  exact { h with cells := ⟨kk, x, by rw [hb.block b h.lt]; exact hc, hm⟩, has := h.has.grown (grown_below hb) h.far, hasN := h.hasN.grown (grown_below hb) h.farN, tab := h.tab.grown (grown_below hb) }
theorem Rr.drewN (h : Rr E lv en b w nv nm m) (n : Nat) : Rr E lv en b (w.drewN n) nv nm m :=
  { h with cells := h.cells, has := h.has.grown (grown_drewN (grown_refl _ (some b)) n) h.far, hasN := h.hasN.grown (grown_drewN (grown_refl _ (some b)) n) h.farN, tab := h.tab.grown (grown_drewN (grown_refl _ (some b)) n) }
/-- another world in which the block is laid anew -/
theorem Rr.laid (h : Rr E lv en b w nv nm m) (g : w.grownBy w' (some b)) {kk x : Int} (hc : w'.heap[b]? = some (.cells (rrCells lv kk en nv E.i E.j m'.isBad x) 70 (0, 0))) (hm : MdCells E en kk x m') : Rr E lv en b w' nv nm m' :=
  { h with cells := ⟨kk, x, hc, hm⟩, has := h.has.grown g h.far, hasN := h.hasN.grown g h.farN, tab := h.tab.grown g }
theorem Rr.names (h : Rr E lv en b w nv nm m) {nv' : Value} {nm' : List (List UInt8)} (hN : Has w 1 nv' nm'.length (textRow nm')) (hf : nv'.ownBlock ≠ some b) : Rr E lv en b (w.setCell ⟨b, 3, none⟩ nv') nv' nm' m := by
  obtain ⟨kk, x, hc, hm⟩ := h.cells
  have g : w.grownBy (w.setCell ⟨b, 3, none⟩ nv') (some b) := grown_set (grown_refl _ _) 3 _
  exact { h with cells := ⟨kk, x, by simp [World.setCell, Array.getElem?_modify, hc, rrCells], hm⟩, has := h.has.grown g h.far, hasN := hN.grown g hf, farN := hf, tab := h.tab.grown g }
/-- the cells, in good mode -/
theorem Rr.at {k : Nat} (h : Rr E lv en b w nv nm (.ok k)) :
    w.cell? ⟨b, 0, none⟩ = some lv ∧ w.cell? ⟨b, 1, none⟩ = some (.int .i64 k) ∧ w.cell? ⟨b, 2, none⟩ = some (.int .i64 en) ∧ w.cell? ⟨b, 3, none⟩ = some nv ∧ w.cell? ⟨b, 4, none⟩ = some (.int .i64 E.i) ∧ w.cell? ⟨b, 5, none⟩ = some (.int .i64 E.j) ∧ w.cell? ⟨b, 6, none⟩ = some (.bool false) ∧ w.cell? ⟨b, 7, none⟩ = some (.int .i64 0) := by
  obtain ⟨kk, x, hc, rfl, _, rfl⟩ := h.cells
  have hc : ∀ j : Nat, w.cell? ⟨b, j, none⟩ = (rrCells lv k en nv E.i E.j false 0)[j]? := fun j => by simp [World.cell?, hc, Md.isBad]
  exact ⟨hc 0, hc 1, hc 2, hc 3, hc 4, hc 5, hc 6, hc 7⟩
theorem Rr.le {k : Nat} (h : Rr E lv en b w nv nm (.ok k)) : k ≤ E.l.length := by obtain ⟨kk, x, hc, rfl, h1, rfl⟩ := h.cells; exact h1
/-- in either mode -/
theorem Rr.at' (h : Rr E lv en b w nv nm m) : ∃ kk x, 0 ≤ kk ∧ kk ≤ 1099511627776 ∧ (m.isBad = true → x = placeT E.l (match m with | .ok k => k | .bad k => k) en) ∧
    w.cell? ⟨b, 0, none⟩ = some lv ∧ w.cell? ⟨b, 1, none⟩ = some (.int .i64 kk) ∧ w.cell? ⟨b, 2, none⟩ = some (.int .i64 en) ∧ w.cell? ⟨b, 3, none⟩ = some nv ∧ w.cell? ⟨b, 6, none⟩ = some (.bool m.isBad) ∧ w.cell? ⟨b, 7, none⟩ = some (.int .i64 x) := by
  obtain ⟨kk, x, hc, hm⟩ := h.cells
  have hl := h.len
  have hc : ∀ j : Nat, w.cell? ⟨b, j, none⟩ = (rrCells lv kk en nv E.i E.j m.isBad x)[j]? := fun j => by simp [World.cell?, hc]
  refine ⟨kk, x, ?_, ?_, ?_, hc 0, hc 1, hc 2, hc 3, hc 6, hc 7⟩
  · cases m <;> simp only [MdCells] at hm <;> omega
  · cases m <;> simp only [MdCells] at hm <;> omega
  · cases m with
    | ok k => simp [Md.isBad]
    | bad k => intro _; exact hm.1
/-- moved on -/
theorem Rr.step {k : Nat} (h : Rr E lv en b w nv nm (.ok k)) (k' : Nat) (hk : k' ≤ E.l.length) : Rr E lv en b (w.setCell ⟨b, 1, none⟩ (.int .i64 k')) nv nm (.ok k') := by
  obtain ⟨kk, x, hc, rfl, _, rfl⟩ := h.cells
  exact h.laid (grown_set (grown_refl _ _) 1 _) (kk := k') (x := 0) (by simp [World.setCell, Array.getElem?_modify, hc, rrCells, Md.isBad]) ⟨rfl, hk, rfl⟩
theorem Rr.failed {k : Nat} (h : Rr E lv en b w nv nm (.ok k)) (x : Nat) : Rr E lv en b ((w.setCell ⟨b, 6, none⟩ (.bool true)).setCell ⟨b, 7, none⟩ (.int .i64 (placeT E.l x en))) nv nm (.bad x) := by
  have hle := h.le
  obtain ⟨kk, x', hc, rfl, _, rfl⟩ := h.cells
  exact h.laid (grown_set (grown_set (grown_refl _ _) 6 _) 7 _) (kk := k) (x := placeT E.l x en) (by simp [World.setCell, Array.getElem?_modify, hc, rrCells, Md.isBad]) ⟨rfl, by omega, by omega⟩
theorem Rr.failed2 {k : Nat} (h : Rr E lv en b w nv nm (.ok k)) (x : Nat) : Rr E lv en b (((w.setCell ⟨b, 6, none⟩ (.bool true)).setCell ⟨b, 7, none⟩ (.int .i64 en)).setCell ⟨b, 7, none⟩ (.int .i64 (placeT E.l x en))) nv nm (.bad x) := by
  have hle := h.le
  obtain ⟨kk, x', hc, rfl, _, rfl⟩ := h.cells
  exact h.laid (grown_set (grown_set (grown_set (grown_refl _ _) 6 _) 7 _) 7 _) (kk := k) (x := placeT E.l x en) (by simp [World.setCell, Array.getElem?_modify, hc, rrCells, Md.isBad]) ⟨rfl, by omega, by omega⟩
end

/-- a call that ends with the reader in a mode; nothing else that was there turns -/
def Turn (E : REnv) (lv : Value) (en : Int) (b : Nat) (w : World) (nv : Value) (nm : List (List UInt8)) (m : Md) (w' : World) : Prop := Rr E lv en b w' nv nm m ∧ w.grownBy w' (some b)
theorem Turn.trans {E : REnv} {lv : Value} {en : Int} {b : Nat} {w w1 w2 : World} {nv nv' : Value} {nm nm' : List (List UInt8)} {m m' : Md} (h : Turn E lv en b w nv nm m w1) (k : Turn E lv en b w1 nv' nm' m' w2) : Turn E lv en b w nv' nm' m' w2 := ⟨k.1, grown_trans h.2 k.2⟩
theorem Turn.drewN {E : REnv} {lv : Value} {en : Int} {b : Nat} {w w1 : World} {nv : Value} {nm : List (List UInt8)} {m : Md} (h : Turn E lv en b w nv nm m w1) (n : Nat) : Turn E lv en b w nv nm m (w1.drewN n) := ⟨h.1.drewN n, grown_drewN h.2 n⟩
theorem Turn.below {E : REnv} {lv : Value} {en : Int} {b : Nat} {w w1 w2 : World} {nv : Value} {nm : List (List UInt8)} {m : Md} (h : Turn E lv en b w nv nm m w1) (k : Below w1.heap.size w1 w2) : Turn E lv en b w nv nm m w2 := ⟨h.1.kept k, grown_trans h.2 (grown_below k)⟩

theorem post_end0 {P : Program} {fn : Func} {R : Ending → World → Prop} {a : Act} {w : World} (hr : fn.results = #[]) (hd : a.defers = []) (hR : R (.returned (.tuple #[])) w) : bodyPost P fn R .normal a w := by
  exact bodyPost_end (results_none hr _ _ _) hd hR
theorem post_ret0 {P : Program} {fn : Func} {R : Ending → World → Prop} {a : Act} {w : World} (hr : fn.results = #[]) (hd : a.defers = []) (hR : R (.returned (.tuple #[])) w) : bodyPost P fn R .ret a w :=
  bodyPost_ret (results_none hr _ _ _) hd hR

section
variable {E : REnv} {lv : Value} {en : Int} {b : Nat} {w : World} {nv : Value} {nm : List (List UInt8)}

set_option maxHeartbeats 1000000 in
set_option maxRecDepth 100000 in
theorem fail_bad (x : Int) {q : Nat} (h : Rr E lv en b w nv nm (.bad q)) :
    Calls Tryd.prog 32 #[.pointer (some ⟨b, 0, none⟩), .int .i64 x] w fun e w' => e = .returned (.tuple #[]) ∧ w' = w := by
  obtain ⟨kk, x', h0, h1, h2, c0, c1, c2, c3, c6, c7⟩ := h.at'
  simp only [Md.isBad] at c6
  clear h h0 h1 h2
  go_enter Tryd.func32, Tryd.ntmps32
  go_wp2
  exact post_ret0 rfl rfl ⟨rfl, rfl⟩

set_option maxHeartbeats 1000000 in
set_option maxRecDepth 100000 in
theorem fail_ok (x : Nat) {k : Nat} (h : Rr E lv en b w nv nm (.ok k)) :
    Calls Tryd.prog 32 #[.pointer (some ⟨b, 0, none⟩), .int .i64 x] w fun e w' => e = .returned (.tuple #[]) ∧ Turn E lv en b w nv nm (.bad x) w' := by
  obtain ⟨c0, c1, c2, c3, c4, c5, c6, c7⟩ := h.at
  have f6 := h.fz 6
  have f7 := h.fz 7
  have hb := h.lt
  have HR := Lib.hid h
  rcases h.has.2 with ⟨rfl, h0⟩ | ⟨bt, o, c, rfl, hn, hbt, hcells⟩
  · have HP := Lib.hid (placeT_ge (toks := E.l) (k := x) (en := en) (by omega))
    have hlt : decide ((x : Int) < 0) = false := by simp
    clear h h0
    go_enter Tryd.func32, Tryd.ntmps32
    go_wp2
    refine post_end0 rfl rfl ⟨rfl, ?_, ?_⟩
    · have := HR.out.failed x
      rw [HP.out] at this
      exact this
    · exact grown_set (grown_set (grown_refl _ _) 6 _) 7 _
  · unfold maxLen at hn
    have hne : ¬ bt = b := by have := h.far; simpa [Value.ownBlock] using this
    by_cases hlt : x < E.l.length
    · have hat := toksCells_at E.l x hlt
      have t2 : w.cell? ⟨bt, o + x * 3 + 2, none⟩ = _ := (hcells (x * 3 + 2) (by omega)).trans hat.2.2
      have HP := Lib.hid (placeT_lt (en := en) hlt)
      have hd : decide ((x : Int) < (E.l.length : Int)) = true := by simp; omega
      clear h hcells hat
      generalize E.l[x].pos = ps at t2 HP
      go_enter Tryd.func32, Tryd.ntmps32
      go_wp2
      refine post_end0 rfl rfl ⟨rfl, ?_, ?_⟩
      · have := HR.out.failed2 x
        rw [HP.out] at this
        exact this
      · exact grown_set (grown_set (grown_set (grown_refl _ _) 6 _) 7 _) 7 _
    · have HP := Lib.hid (placeT_ge (toks := E.l) (k := x) (en := en) (by omega))
      have hd : decide ((x : Int) < (E.l.length : Int)) = false := by simp; omega
      clear h hcells
      go_enter Tryd.func32, Tryd.ntmps32
      go_wp2
      refine post_end0 rfl rfl ⟨rfl, ?_, ?_⟩
      · have := HR.out.failed x
        rw [HP.out] at this
        exact this
      · exact grown_set (grown_set (grown_refl _ _) 6 _) 7 _

/-- next, behind a fault -/
theorem next_bad (kind : Int) {q : Nat} (h : Rr E lv en b w nv nm (.bad q)) :
    Calls Tryd.prog 47 #[.pointer (some ⟨b, 0, none⟩), .int .i64 kind] w fun e w' => e = .returned (.string ⟨#[]⟩) ∧ Turn E lv en b w nv nm (.bad q) w' := by
  obtain ⟨kk, x', h0, h1, h2, c0, c1, c2, c3, c6, c7⟩ := h.at'
  simp only [Md.isBad] at c6
  have HR := Lib.hid h
  clear h h0 h1 h2
  go_enter Tryd.func47, Tryd.ntmps47
  go_wp2_with fail
  go_quiet (fail)
  go_wp2_with fail
  refine (fail_bad _ (HR.out.drewN _)).mono ?_
  rintro e w1 ⟨rfl, rfl⟩
  go_wp2
  go_ret
  exact ⟨rfl, HR.out.drewN _, grown_drewN (grown_refl _ _) _⟩

set_option maxHeartbeats 1000000 in
set_option maxRecDepth 100000 in
/-- next, where another kind of token stands -/
theorem next_miss (kind : Nat) {k : Nat} (_hk0 : kind ≠ 0) (hk : kindAt E.l k ≠ kind) (h : Rr E lv en b w nv nm (.ok k)) :
    Calls Tryd.prog 47 #[.pointer (some ⟨b, 0, none⟩), .int .i64 kind] w fun e w' => e = .returned (.string ⟨#[]⟩) ∧ Turn E lv en b w nv nm (.bad k) w' := by
  obtain ⟨c0, c1, c2, c3, c4, c5, c6, c7⟩ := h.at
  have HR := Lib.hid h
  rcases h.has.2 with ⟨rfl, h0⟩ | ⟨bt, o, c, rfl, hn, hbt, hcells⟩
  · have hlt : decide ((0 : Int) ≤ (k : Int)) = true := by simp
    clear h h0 hk
    go_enter Tryd.func47, Tryd.ntmps47
    go_wp2_with fail
    go_quiet (fail)
    have hq := HR.out.drewN nq
    obtain ⟨d0, d1, d2, d3, d4, d5, d6, d7⟩ := hq.at
    clear hq
    go_wp2_with fail
    refine (fail_ok k (HR.out.drewN nq)).mono ?_
    rintro e w1 ⟨rfl, ht⟩
    go_wp2
    go_ret
    exact ⟨rfl, ht.1, grown_trans (grown_drewN (grown_refl _ _) _) ht.2⟩
  · unfold maxLen at hn
    by_cases hlt : k < E.l.length
    · have hat := toksCells_at E.l k hlt
      have t0 := (hcells (k * 3) (by omega)).trans hat.1
      have HV : Hid (kindAt E.l k = E.l[k].kind) := Lib.hid (by rw [kindAt_eq hlt])
      have hd : decide (E.l.length ≤ k) = false := by simp; omega
      have hne : (((E.l[k].kind : Nat) : Int) != (kind : Int)) = true := by rw [← HV.out]; simp; omega
      clear h hcells hat hk _hk0
      generalize E.l[k].kind = kk at t0 HV hne
      go_enter Tryd.func47, Tryd.ntmps47
      go_wp2_with fail
      go_quiet (fail)
      have hq := HR.out.drewN nq
      obtain ⟨d0, d1, d2, d3, d4, d5, d6, d7⟩ := hq.at
      clear hq
      go_wp2_with fail
      refine (fail_ok k (HR.out.drewN nq)).mono ?_
      rintro e w1 ⟨rfl, ht⟩
      go_wp2
      go_ret
      exact ⟨rfl, ht.1, grown_trans (grown_drewN (grown_refl _ _) _) ht.2⟩
    · have hd : decide (E.l.length ≤ k) = true := by simp; omega
      clear h hcells hk _hk0
      go_enter Tryd.func47, Tryd.ntmps47
      go_wp2_with fail
      go_quiet (fail)
      have hq := HR.out.drewN nq
      obtain ⟨d0, d1, d2, d3, d4, d5, d6, d7⟩ := hq.at
      clear hq
      go_wp2_with fail
      refine (fail_ok k (HR.out.drewN nq)).mono ?_
      rintro e w1 ⟨rfl, ht⟩
      go_wp2
      go_ret
      exact ⟨rfl, ht.1, grown_trans (grown_drewN (grown_refl _ _) _) ht.2⟩

set_option maxHeartbeats 1000000 in
set_option maxRecDepth 100000 in
/-- next, where such a token stands -/
theorem next_ok (kind : Nat) {k : Nat} (hk0 : kind ≠ 0) (hk : kindAt E.l k = kind) (h : Rr E lv en b w nv nm (.ok k)) :
    Calls Tryd.prog 47 #[.pointer (some ⟨b, 0, none⟩), .int .i64 kind] w fun e w' => e = .returned (.string ⟨(textAt E.l k).toArray⟩) ∧ Turn E lv en b w nv nm (.ok (k + 1)) w' := by
  obtain ⟨c0, c1, c2, c3, c4, c5, c6, c7⟩ := h.at
  have HR := Lib.hid h
  have hlt := kindAt_lt (l := E.l) (k := k) (by omega)
  have hfar := h.far
  rcases h.has.2 with ⟨rfl, h0⟩ | ⟨bt, o, c, rfl, hn, hbt, hcells⟩
  · omega
  unfold maxLen at hn
  have hne0 : ¬ bt = b := by simpa [Value.ownBlock] using hfar
  have hat := toksCells_at E.l k hlt
  have t0 := (hcells (k * 3) (by omega)).trans hat.1
  have t1 : w.cell? ⟨bt, o + k * 3 + 1, none⟩ = _ := (hcells (k * 3 + 1) (by omega)).trans hat.2.1
  have HT : Hid (textAt E.l k = E.l[k].text) := Lib.hid (textAt_eq hlt)
  have HV : Hid (kindAt E.l k = E.l[k].kind) := Lib.hid (by rw [kindAt_eq hlt])
  have hd : decide (E.l.length ≤ k) = false := by simp; omega
  have hne : (((E.l[k].kind : Nat) : Int) != (kind : Int)) = false := by rw [← HV.out]; simp; omega
  have f1 := h.fz 1
  have hbl := h.lt
  have HL := Lib.hid h.len
  clear h hcells hat hk hk0 hfar
  generalize E.l[k].kind = kk at t0 HV hne
  generalize E.l[k].text = tx at t1 HT
  go_enter Tryd.func47, Tryd.ntmps47
  go_wp2_with fail
  go_quiet (fail)
  revert nq
  intro n1
  have hl := HL.out
  go_wp2
  go_quiet (fail)
  go_wp2
  go_ret
  exact ⟨by rw [HT.out]; rfl, ((HR.out.drewN n1).step (k + 1) hlt).drewN _, grown_drewN (grown_set (grown_drewN (grown_refl _ _) _) 1 _) _⟩
end
end Go.Proofs.YtfklmcmoackepaaDoor
