/- Walk of read.Read. -/
import Derived.Test.YtfklmcmoackepaaDoorQr
import Derived.Test.YtfklmcmoackepaaDoorSf
namespace Go.Proofs.YtfklmcmoackepaaDoor
open Go.RowKit

/-- what read.Read ends in, for the term or the fault r -/
def ReadOut (w : World) (text : List UInt8) (r : RR TT) (e : Ending) (w' : World) : Prop :=
  match r with
  | .ok t _ => ∃ (a : Option Addr) (l c : Nat), e = .returned (.tuple #[termV t.kd t.ni t.nj t.nn (.slice a l c), .int .i64 0, .int .i64 0]) ∧ RepT w' t.kids (.slice a l c) ∧ t.in4 ∧ Below w.heap.size w w'
  | .bad k => e = .returned (.tuple #[termV 0 0 0 0 (.slice none 0 0), .int .i64 2, .int .i64 (placeM text k : Nat)]) ∧ Below w.heap.size w w'
/-- the same, what is read in memory that is new -/
def ReadOutS (w : World) (text : List UInt8) (r : RR TT) (e : Ending) (w' : World) : Prop :=
  match r with
  | .ok t _ => ∃ (a : Option Addr) (l c : Nat), e = .returned (.tuple #[termV t.kd t.ni t.nj t.nn (.slice a l c), .int .i64 0, .int .i64 0]) ∧ RepTS w' (fun x => w.heap.size ≤ x) t.kids (.slice a l c) ∧ t.in4 ∧ Below w.heap.size w w'
  | .bad k => e = .returned (.tuple #[termV 0 0 0 0 (.slice none 0 0), .int .i64 2, .int .i64 (placeM text k : Nat)]) ∧ Below w.heap.size w w'
theorem ReadOutS.weak {w : World} {text : List UInt8} {r : RR TT} {e : Ending} {w' : World} (h : ReadOutS w text r e w') : ReadOut w text r e w' := by
  cases r with
  | ok t k => obtain ⟨a, l, c, h1, h2, h3⟩ := h; exact ⟨a, l, c, h1, h2.rep, h3⟩
  | bad k => exact h
theorem placeT_M (text : List UInt8) (toks : List Tok) (f : Option Nat) (h : lexL text = (toks, f)) (k : Nat) (en : Nat) (he : en = f.getD text.length) : placeT toks k en = (placeM text k : Nat) := by
  unfold placeT placeM
  rw [h]
  subst he
  cases toks[k]? <;> rfl
theorem cells8 {W : World} {R : Nat} {a c d e f g h i : Value} {T : TypeId} (hh : W.heap[R]? = some (.cells #[a, c, d, e, f, g, h, i] T (0, 0))) :
    W.cell? ⟨R, 0, none⟩ = some a ∧ W.cell? ⟨R, 1, none⟩ = some c ∧ W.cell? ⟨R, 2, none⟩ = some d ∧ W.cell? ⟨R, 3, none⟩ = some e ∧ W.cell? ⟨R, 4, none⟩ = some f ∧ W.cell? ⟨R, 5, none⟩ = some g ∧ W.cell? ⟨R, 6, none⟩ = some h ∧ W.cell? ⟨R, 7, none⟩ = some i := by
  have hc : ∀ j : Nat, W.cell? ⟨R, j, none⟩ = (#[a, c, d, e, f, g, h, i] : Array Value)[j]? := fun j => by simp only [World.cell?]; rw [hh]; simp
  exact ⟨hc 0, hc 1, hc 2, hc 3, hc 4, hc 5, hc 6, hc 7⟩

theorem zero_end2 {w W : World} (hb : Below w.heap.size w W) (hres : W.heap[w.heap.size]? = some (.cells zero5 24 (0, 0))) (n : Nat) :
    ∃ W', (((((W.drewN n).setCell ⟨w.heap.size, 0, none⟩ (.int .i64 0)).setCell ⟨w.heap.size, 1, none⟩ (.int .i64 0)).setCell ⟨w.heap.size, 2, none⟩ (.int .i64 0)).setCell ⟨w.heap.size, 3, none⟩ (.int .i64 0)).setCell ⟨w.heap.size, 4, none⟩ (.slice none 0 0) = W' ∧
      Below w.heap.size w W' ∧ W'.heap[w.heap.size]? = some (.cells zero5 24 (0, 0)) := by
  have h0 : (W.drewN n).heap[w.heap.size]? = some (.cells zero5 24 (0, 0)) := hres
  have h2 := set5_at h0 (.int .i64 0) (.int .i64 0) (.int .i64 0) (.int .i64 0) (.slice none 0 0)
  unfold set5 at h2
  have hd : Below w.heap.size w (W.drewN n) := hb.trans (Below.mk rfl rfl rfl (Nat.le_refl _) (fun _ _ => rfl))
  exact ⟨_, rfl, ((((hd.setCell (p := ⟨w.heap.size, 0, none⟩) (Nat.le_refl _) _).setCell (p := ⟨w.heap.size, 1, none⟩) (Nat.le_refl _) _).setCell (p := ⟨w.heap.size, 2, none⟩) (Nat.le_refl _) _).setCell (p := ⟨w.heap.size, 3, none⟩) (Nat.le_refl _) _).setCell (p := ⟨w.heap.size, 4, none⟩) (Nat.le_refl _) _, h2⟩

theorem drew_heap (W : World) : W.drew.heap = W.heap := rfl
theorem zero_end3 {w W : World} (hb : Below w.heap.size w W) (hres : W.heap[w.heap.size]? = some (.cells zero5 24 (0, 0))) :
    ∃ W', (((((W.setCell ⟨w.heap.size, 0, none⟩ (.int .i64 0)).setCell ⟨w.heap.size, 1, none⟩ (.int .i64 0)).setCell ⟨w.heap.size, 2, none⟩ (.int .i64 0)).setCell ⟨w.heap.size, 3, none⟩ (.int .i64 0)).setCell ⟨w.heap.size, 4, none⟩ (.slice none 0 0)).drew = W' ∧
      Below w.heap.size w W' ∧ W'.heap[w.heap.size]? = some (.cells zero5 24 (0, 0)) := by
  have h2 := set5_at hres (.int .i64 0) (.int .i64 0) (.int .i64 0) (.int .i64 0) (.slice none 0 0)
  unfold set5 at h2
  exact ⟨_, rfl, (((((hb.setCell (p := ⟨w.heap.size, 0, none⟩) (Nat.le_refl _) _).setCell (p := ⟨w.heap.size, 1, none⟩) (Nat.le_refl _) _).setCell (p := ⟨w.heap.size, 2, none⟩) (Nat.le_refl _) _).setCell (p := ⟨w.heap.size, 3, none⟩) (Nat.le_refl _) _).setCell (p := ⟨w.heap.size, 4, none⟩) (Nat.le_refl _) _).drew, (by rw [drew_heap]; exact h2)⟩

section
variable (s : ByteArray) {nv : Value} {nm : List (List UInt8)} (i j : Nat) (w : World)

set_option maxHeartbeats 4000000 in
set_option maxRecDepth 100000 in
theorem read_lexed (ht : Tab w) (hs : s.size ≤ 1099511627776) (hN : Has w 1 nv nm.length (textRow nm)) (hnl : nm.length ≤ 1099511627776) (hij : i ≤ 1000 ∧ j ≤ 1000) (toks : List Tok) (hl : lexL s.data.toList = (toks, none)) :
    Calls Tryd.prog 18 #[.string s, nv, .int .i64 i, .int .i64 j] w (ReadOutS w s.data.toList (readM s.data.toList nm i j)) := by
  have g1 : decide ((1000 : Int) < (i : Int)) = false := by simp; omega
  have g2 : decide ((1000 : Int) < (j : Int)) = false := by simp; omega
  have hlen := lexL_length s.data.toList
  rw [hl] at hlen
  have hlen2 : toks.length ≤ 1099511627776 := by have e : s.data.toList.length = s.size := by simp
                                                 dsimp only at hlen; omega
  have HTX : Hid (∀ j, (textAt toks j).length ≤ 1099511627776) := Lib.hid (fun j => Nat.le_trans (textAt_le s toks hl j) hs)
  have HSZ : Hid (s.data.toList.length = s.size) := Lib.hid (by simp)
  have HT := Lib.hid ht
  have HS := Lib.hid hs
  have HL := Lib.hid hl
  have HN := Lib.hid hN
  obtain ⟨anv, cnv, rfl⟩ : ∃ a c, nv = .slice a nm.length c := by
    rcases hN.2 with ⟨rfl, h0⟩ | ⟨bt, o, c, rfl, _⟩
    · exact ⟨none, 0, by rw [h0]⟩
    · exact ⟨_, _, rfl⟩
  have HO : Hid (((w.alloc (.cells #[.int .i64 0, .int .i64 0, .int .i64 0, .int .i64 0, .slice none 0 0] 24)).alloc (.cells #[.slice none 0 0, .int .i64 0, .int .i64 s.size, (.slice anv nm.length cnv), .int .i64 i, .int .i64 j, .bool false, .int .i64 0] 70)).heap[w.heap.size]? = some (.cells zero5 24 (0, 0)) ∧ ((w.alloc (.cells #[.int .i64 0, .int .i64 0, .int .i64 0, .int .i64 0, .slice none 0 0] 24)).alloc (.cells #[.slice none 0 0, .int .i64 0, .int .i64 s.size, (.slice anv nm.length cnv), .int .i64 i, .int .i64 j, .bool false, .int .i64 0] 70)).heap[w.heap.size + 1]? = some (.cells #[.slice none 0 0, .int .i64 0, .int .i64 s.size, (.slice anv nm.length cnv), .int .i64 i, .int .i64 j, .bool false, .int .i64 0] 70) ∧ Below w.heap.size w ((w.alloc (.cells #[.int .i64 0, .int .i64 0, .int .i64 0, .int .i64 0, .slice none 0 0] 24)).alloc (.cells #[.slice none 0 0, .int .i64 0, .int .i64 s.size, (.slice anv nm.length cnv), .int .i64 i, .int .i64 j, .bool false, .int .i64 0] 70)) ∧ ((w.alloc (.cells #[.int .i64 0, .int .i64 0, .int .i64 0, .int .i64 0, .slice none 0 0] 24)).alloc (.cells #[.slice none 0 0, .int .i64 0, .int .i64 s.size, (.slice anv nm.length cnv), .int .i64 i, .int .i64 j, .bool false, .int .i64 0] 70)).heap.size = w.heap.size + 2) := Lib.hid (by
    refine ⟨(Lib.alloc_old _ _ _ (by simp)).trans (new_heap _ _ _), ?_, (below_alloc w _).trans ((below_alloc _ _).mono (by simp)), by simp⟩
    have := new_heap (w.alloc (.cells #[.int .i64 0, .int .i64 0, .int .i64 0, .int .i64 0, .slice none 0 0] 24)) #[.slice none 0 0, .int .i64 0, .int .i64 s.size, .slice anv nm.length cnv, .int .i64 i, .int .i64 j, .bool false, .int .i64 0] 70
    simpa using this)
  clear ht hl hN hlen
  go_enter Tryd.func18, Tryd.ntmps18
  go_wp2_with fail
  refine (lex_ok s _ toks HL.out HS.out (HT.out.below HO.out.2.2.1)).mono ?_
  rintro e w2 ⟨v, rfl, hown, hb2⟩
  obtain ⟨al, cl, rfl⟩ := own_form hown
  have hsz := HO.out.2.2.2
  have hrc : w2.heap[w.heap.size + 1]? = some (.cells #[.slice none 0 0, .int .i64 0, .int .i64 s.size, .slice anv nm.length cnv, .int .i64 i, .int .i64 j, .bool false, .int .i64 0] 70 (0, 0)) := by rw [hb2.block _ (by omega)]; exact HO.out.2.1
  have hrs : w2.heap[w.heap.size]? = some (.cells zero5 24 (0, 0)) := by rw [hb2.block _ (by omega)]; exact HO.out.1
  rw [hsz] at hown
  have HB2 : Hid (Below w.heap.size w w2) := Lib.hid (HO.out.2.2.1.trans (hb2.mono (by omega)))
  clear hb2 hsz
  have HLV : Hid (∀ x, Value.ownBlock (.slice al toks.length cl) = some x → w.heap.size + 2 ≤ x) := Lib.hid (fun x hx => by have := (hown.lt x hx).1; omega)
  have HRR : Hid (Rr ⟨toks, i, j⟩ (.slice al toks.length cl) (s.size : Nat) (w.heap.size + 1) (w2.setCell ⟨w.heap.size + 1, 0, none⟩ (.slice al toks.length cl)) (.slice anv nm.length cnv) nm (.ok 0)) := Lib.hid (by
    have g1 : w2.grownBy (w2.setCell ⟨w.heap.size + 1, 0, none⟩ (.slice al toks.length cl)) (some (w.heap.size + 1)) := grown_set (grown_refl _ _) 0 _
    have gw : Below w.heap.size w (w2.setCell ⟨w.heap.size + 1, 0, none⟩ (.slice al toks.length cl)) := HB2.out.setCell (p := ⟨w.heap.size + 1, 0, none⟩) (by simp) _
    refine { cells := ⟨0, 0, ?_, rfl, Nat.zero_le _, rfl⟩, has := (Has.of_owns hown).grown g1 (fun he => by have := (hown.lt _ he).1; omega), far := fun he => by have := (hown.lt _ he).1; omega, hasN := HN.out.below gw, farN := fun he => by have h9 := HN.out.own_lt (w.heap.size + 1) he; omega, short := HTX.out, len := hlen2, lev := hij, tab := ⟨w, HT.out, gw, by omega⟩ }
    rw [set1_at hrc 0]
    rfl)
  have HG0 : Hid (Below w.heap.size w (w2.setCell ⟨w.heap.size + 1, 0, none⟩ (.slice al toks.length cl))) := Lib.hid (HB2.out.setCell (p := ⟨w.heap.size + 1, 0, none⟩) (by simp) _)
  have HRS : Hid ((w2.setCell ⟨w.heap.size + 1, 0, none⟩ (.slice al toks.length cl)).heap[w.heap.size]? = some (.cells zero5 24 (0, 0))) := Lib.hid (by rw [Below.heap_setCell _ _ _ _ (by simp)]; exact hrs)
  obtain ⟨c0, c1, c2, c3, c4, c5, c6, c7⟩ := cells8 hrc
  have f0 : w2.frozen? ⟨w.heap.size + 1, 0, none⟩ = false := by simp [World.frozen?, hrc]
  have hlt2 := (Array.getElem?_eq_some_iff.1 hrc).1
  clear hown hrc hrs
  go_wp2_with fail
  refine (termR_any (E := ⟨toks, i, j⟩) (toks.length + 1) (.slice anv nm.length cnv) nm 0 0 _ HRR.out (by simp) (by dsimp only; omega) (by decide)).mono ?_
  rintro e w4 ⟨t, a6, l6, c6', rfl, ht4, hv4⟩
  have HM4 : Hid (∀ k, (termM ⟨toks, i, j⟩ (toks.length + 1) nm 0 0).md = .ok k → k ≤ toks.length) := Lib.hid (fun k hk => by rw [hk] at ht4; exact ht4.1.le)
  generalize hr : termM ⟨toks, i, j⟩ (toks.length + 1) nm 0 0 = r at *
  have HRM : Hid (readM s.data.toList nm i j = r.bind fun t k => if k < toks.length ∨ (none : Option Nat) ≠ none then .bad k else .ok t k) := Lib.hid (by
    unfold readM
    rw [HL.out]
    dsimp only
    rw [hr])
  have HT4 := Lib.hid ht4
  have HB4 : Hid (Below w.heap.size w w4) := Lib.hid (HG0.out.trans (below_of_grown ht4.2 (by omega) HG0.out.size))
  have hrs4 : w4.heap[w.heap.size]? = some (.cells zero5 24 (0, 0)) := by
    rw [ht4.2.block _ (by simp; omega) (by simp)]; exact HRS.out
  have HRS4 := Lib.hid hrs4
  clear ht4 hrs4 hr c0 c1 c2 c3 c4 c5 c6 c7 f0 hlt2
  unfold termV
  cases r with
  | bad q =>
    have HRES : Hid (readM s.data.toList nm i j = .bad q) := Lib.hid (by rw [HRM.out]; rfl)
    have HR5 := Lib.hid (HT4.out.1.kept (below_alloc w4 (.cells #[.int .i64 t.kd, .int .i64 t.ni, .int .i64 t.nj, .int .i64 t.nn, .slice a6 l6 c6'] 24)))
    have HB5 := Lib.hid (HB4.out.trans ((below_alloc w4 (.cells #[.int .i64 t.kd, .int .i64 t.ni, .int .i64 t.nj, .int .i64 t.nn, .slice a6 l6 c6'] 24)).mono HB4.out.size))
    have HS5 : Hid ((w4.alloc (.cells #[.int .i64 t.kd, .int .i64 t.ni, .int .i64 t.nj, .int .i64 t.nn, .slice a6 l6 c6'] 24)).heap[w.heap.size]? = some (.cells zero5 24 (0, 0))) := Lib.hid ((Lib.alloc_old _ _ _ (Array.getElem?_eq_some_iff.1 HRS4.out).1).trans HRS4.out)
    clear hv4
    have hz := HR5.out
    simp only [RR.md] at hz
    obtain ⟨kk, x', h0, h1, h2, d0, d1, d2, d3, d6, d7⟩ := hz.at'
    simp only [Md.isBad] at d6 h2
    have hx := h2 trivial
    have HXP : Hid (x' = (placeM s.data.toList q : Nat)) := Lib.hid (by rw [hx]; exact placeT_M _ _ _ HL.out q _ (by rw [Option.getD_none]; exact HSZ.out.symm))
    clear hz h2 hx
    obtain ⟨r0, r1, r2, r3, r4, g0, g1, g2, g3, g4⟩ := cells5 HS5.out
    go_wp2_with fail
    generalize w4.alloc (.cells #[.int .i64 t.kd, .int .i64 t.ni, .int .i64 t.nj, .int .i64 t.nn, .slice a6 l6 c6'] 24) = W5 at *
    go_quiet (fail)
    go_wp2_with fail
    have HZ := Lib.hid (zero_end2 HB5.out HS5.out (nq + 1))
    go_region
    all_goals
      go_wp2
      obtain ⟨W', hW', hbW, hrW⟩ := HZ.out
      rw [hW']
      obtain ⟨x0, x1, x2, x3, x4, _⟩ := cells5 hrW
      exact bodyPost_ret (v := .tuple #[termV 0 0 0 0 (.slice none 0 0), .int .i64 2, .int .i64 x']) (by simp [results, Tryd.results18, go_sem, x0, x1, x2, x3, x4, termV]) rfl (by rw [HRES.out]; exact ⟨by rw [HXP.out], hbW⟩)
  | ok t' k' =>
    obtain ⟨htt, hrep, hin4⟩ := hv4 t' k' rfl
    subst htt
    have hk'le := HM4.out k' rfl
    have HREP : Hid (RepT w4 t'.kids (.slice a6 l6 c6') ∧ t'.in4) := Lib.hid ⟨hrep.rep, hin4⟩
    have HR5 := Lib.hid (HT4.out.1.kept (below_alloc w4 (.cells #[.int .i64 t'.kd, .int .i64 t'.ni, .int .i64 t'.nj, .int .i64 t'.nn, .slice a6 l6 c6'] 24)))
    have HB5 := Lib.hid (HB4.out.trans ((below_alloc w4 (.cells #[.int .i64 t'.kd, .int .i64 t'.ni, .int .i64 t'.nj, .int .i64 t'.nn, .slice a6 l6 c6'] 24)).mono HB4.out.size))
    have HS5 : Hid ((w4.alloc (.cells #[.int .i64 t'.kd, .int .i64 t'.ni, .int .i64 t'.nj, .int .i64 t'.nn, .slice a6 l6 c6'] 24)).heap[w.heap.size]? = some (.cells zero5 24 (0, 0))) := Lib.hid ((Lib.alloc_old _ _ _ (Array.getElem?_eq_some_iff.1 HRS4.out).1).trans HRS4.out)
    have HT5 : Hid ((w4.alloc (.cells #[.int .i64 t'.kd, .int .i64 t'.ni, .int .i64 t'.nj, .int .i64 t'.nn, .slice a6 l6 c6'] 24)).heap[w4.heap.size]? = some (.cells #[.int .i64 t'.kd, .int .i64 t'.ni, .int .i64 t'.nj, .int .i64 t'.nn, .slice a6 l6 c6'] 24 (0, 0))) := Lib.hid (new_heap _ _ _)
    have HKP : Hid (RepT (w4.alloc (.cells #[.int .i64 t'.kd, .int .i64 t'.ni, .int .i64 t'.nj, .int .i64 t'.nn, .slice a6 l6 c6'] 24)) t'.kids (.slice a6 l6 c6')) := Lib.hid (HREP.out.1.kept (below_alloc _ _))
    have HKS : Hid (RepTS w4 (fun x => w.heap.size + 2 ≤ x) t'.kids (.slice a6 l6 c6')) := Lib.hid (hrep.kept (Nat.le_refl _) fun x hx _ => ⟨rfl, by have h9 := HG0.out.size; have h8 := HRR.out.lt; omega⟩)
    have hrw4 : w.heap.size < w4.heap.size := (Array.getElem?_eq_some_iff.1 HRS4.out).1
    have hnr : ¬ w4.heap.size = w.heap.size := by omega
    have hnr' : ¬ w.heap.size = w4.heap.size := by omega
    have HKS5 : Hid (RepTS (w4.alloc (.cells #[.int .i64 t'.kd, .int .i64 t'.ni, .int .i64 t'.nj, .int .i64 t'.nn, .slice a6 l6 c6'] 24)) (fun x => w.heap.size + 2 ≤ x) t'.kids (.slice a6 l6 c6')) := Lib.hid (HKS.out.kept (by simp) fun x hx hxl => ⟨Lib.alloc_old _ _ _ hxl, hx⟩)
    clear hv4 hrep hin4
    have hz := HR5.out
    simp only [RR.md] at hz
    have HR5k := Lib.hid hz
    obtain ⟨d0, d1, d2, d3, d4, d5, d6, d7⟩ := hz.at
    clear hz
    by_cases hk : k' < toks.length
    · have hkd : decide (k' < toks.length) = true := by simp; omega
      have hkd2 : decide ((k' : Int) < (toks.length : Int)) = true := by simp; omega
      have HRES : Hid (readM s.data.toList nm i j = .bad k') := Lib.hid (by rw [HRM.out, RR.bind_ok, if_pos (Or.inl hk)])
      go_wp2_with fail
      generalize w4.alloc (.cells #[.int .i64 t'.kd, .int .i64 t'.ni, .int .i64 t'.nj, .int .i64 t'.nn, .slice a6 l6 c6'] 24) = W5 at *
      go_quiet (fail)
      have HQ := Lib.hid (HR5k.out.drewN nq)
      obtain ⟨q0, q1, q2, q3, q4, q5, q6, q7⟩ := HQ.out.at
      go_wp2_with fail
      refine (fail_ok k' HQ.out).mono ?_
      rintro e w6 ⟨rfl, ht6⟩
      have HB6 : Hid (Below w.heap.size w w6) := Lib.hid ((HB5.out.trans (Below.mk rfl rfl rfl (Nat.le_refl _) (fun _ _ => rfl) : Below w.heap.size W5 (W5.drewN nq))).trans (below_of_grown ht6.2 (by omega) (by have := HB5.out.size; simpa using this)))
      have HS6 : Hid (w6.heap[w.heap.size]? = some (.cells zero5 24 (0, 0))) := Lib.hid (by
        rw [ht6.2.block w.heap.size (by simpa using (Array.getElem?_eq_some_iff.1 HS5.out).1) (by simp)]
        exact HS5.out)
      obtain ⟨kk, x', h0, h1, h2, s0, s1, s2, s3, s6, s7⟩ := ht6.1.at'
      simp only [Md.isBad] at s6 h2
      have hx := h2 trivial
      have HXP : Hid (x' = (placeM s.data.toList k' : Nat)) := Lib.hid (by rw [hx]; exact placeT_M _ _ _ HL.out k' _ (by rw [Option.getD_none]; exact HSZ.out.symm))
      clear h2 hx ht6 d0 d1 d2 d3 d4 d5 d6 d7 q0 q1 q2 q3 q4 q5 q6 q7
      obtain ⟨r0, r1, r2, r3, r4, g0, g1, g2, g3, g4⟩ := cells5 HS6.out
      go_wp2_with fail
      have HZ := Lib.hid (zero_end3 HB6.out HS6.out)
      go_region
      all_goals
        go_wp2
        obtain ⟨W', hW', hbW, hrW⟩ := HZ.out
        rw [hW']
        obtain ⟨x0, x1, x2, x3, x4, _⟩ := cells5 hrW
        exact bodyPost_ret (v := .tuple #[termV 0 0 0 0 (.slice none 0 0), .int .i64 2, .int .i64 x']) (by simp [results, Tryd.results18, go_sem, x0, x1, x2, x3, x4, termV]) rfl (by rw [HRES.out]; exact ⟨by rw [HXP.out], hbW⟩)
    · have hkd : decide (k' < toks.length) = false := by simp; omega
      have hkd2 : decide ((k' : Int) < (toks.length : Int)) = false := by simp; omega
      have HRES : Hid (readM s.data.toList nm i j = .ok t' k') := Lib.hid (by rw [HRM.out, RR.bind_ok, if_neg (by simp; omega)])
      go_wp2_with fail
      generalize w4.alloc (.cells #[.int .i64 t'.kd, .int .i64 t'.ni, .int .i64 t'.nj, .int .i64 t'.nn, .slice a6 l6 c6'] 24) = W5 at *
      obtain ⟨r0, r1, r2, r3, r4, g0, g1, g2, g3, g4⟩ := cells5 HS5.out
      obtain ⟨m0, m1, m2, m3, m4, _⟩ := cells5 HT5.out
      go_quiet (fail)
      go_wp2
      have hset := set5_at (W := W5.drewN nq) (a0 := .int .i64 0) (c0 := .int .i64 0) (d0 := .int .i64 0) (e0 := .int .i64 0) (f0 := .slice none 0 0) (T := 24) HS5.out (.int .i64 t'.kd) (.int .i64 t'.ni) (.int .i64 t'.nj) (.int .i64 t'.nn) (.slice a6 l6 c6')
      have hd : Below w.heap.size w (W5.drewN nq) := HB5.out.trans (Below.mk rfl rfl rfl (Nat.le_refl _) (fun _ _ => rfl))
      have hbW := ((((hd.setCell (p := ⟨w.heap.size, 0, none⟩) (Nat.le_refl _) (.int .i64 t'.kd)).setCell (p := ⟨w.heap.size, 1, none⟩) (Nat.le_refl _) (.int .i64 t'.ni)).setCell (p := ⟨w.heap.size, 2, none⟩) (Nat.le_refl _) (.int .i64 t'.nj)).setCell (p := ⟨w.heap.size, 3, none⟩) (Nat.le_refl _) (.int .i64 t'.nn)).setCell (p := ⟨w.heap.size, 4, none⟩) (Nat.le_refl _) (.slice a6 l6 c6')
      have hrep2 : RepTS (set5 (W5.drewN nq) w.heap.size (.int .i64 t'.kd) (.int .i64 t'.ni) (.int .i64 t'.nj) (.int .i64 t'.nn) (.slice a6 l6 c6')) (fun x => w.heap.size ≤ x) t'.kids (.slice a6 l6 c6') := ((HKS5.out.kept (w' := W5.drewN nq) (S' := fun x => w.heap.size + 2 ≤ x) (show W5.heap.size ≤ (W5.drewN nq).heap.size from Nat.le_refl _) fun x hx _ => ⟨rfl, hx⟩).kept (S' := fun x => w.heap.size ≤ x) (by rw [set5_size]; exact Nat.le_refl _) fun x hx _ => ⟨set5_other (W5.drewN nq) _ _ _ _ _ _ (by omega), by omega⟩)
      unfold set5 at hset hrep2
      obtain ⟨x0, x1, x2, x3, x4, _⟩ := cells5 hset
      exact bodyPost_ret (v := .tuple #[termV t'.kd t'.ni t'.nj t'.nn (.slice a6 l6 c6'), .int .i64 0, .int .i64 0]) (by simp [results, Tryd.results18, go_sem, x0, x1, x2, x3, x4, termV]) rfl (by rw [HRES.out]; exact ⟨a6, l6, c6', rfl, hrep2, HREP.out.2, hbW⟩)


set_option maxHeartbeats 4000000 in
set_option maxRecDepth 100000 in
theorem read_cut (ht : Tab w) (hs : s.size ≤ 1099511627776) (hN : Has w 1 nv nm.length (textRow nm)) (hnl : nm.length ≤ 1099511627776) (hij : i ≤ 1000 ∧ j ≤ 1000) (toks : List Tok) (p : Nat) (hl : lexL s.data.toList = (toks, some p)) :
    Calls Tryd.prog 18 #[.string s, nv, .int .i64 i, .int .i64 j] w (ReadOutS w s.data.toList (readM s.data.toList nm i j)) := by
  have g1 : decide ((1000 : Int) < (i : Int)) = false := by simp; omega
  have g2 : decide ((1000 : Int) < (j : Int)) = false := by simp; omega
  have hlen := lexL_length s.data.toList
  rw [hl] at hlen
  have hlen2 : toks.length ≤ 1099511627776 := by have e : s.data.toList.length = s.size := by simp
                                                 dsimp only at hlen; omega
  have HTX : Hid (∀ j, (textAt toks j).length ≤ 1099511627776) := Lib.hid (fun j => Nat.le_trans (textAt_le' s toks p hl j) hs)
  have hpl := lexL_fault hl
  have hcut := lexL_cut hl
  have hps : p ≤ s.size := by simpa using hpl
  have HCUT : Hid (lexL (s.extract 0 p).data.toList = (toks, none)) := Lib.hid (by rw [extract_list]; exact hcut)
  have HX : Hid ((s.extract 0 p).size ≤ 1099511627776) := Lib.hid (by simp [ByteArray.size_extract]; omega)
  have HT := Lib.hid ht
  have HS := Lib.hid hs
  have HL := Lib.hid hl
  have HN := Lib.hid hN
  obtain ⟨anv, cnv, rfl⟩ : ∃ a c, nv = .slice a nm.length c := by
    rcases hN.2 with ⟨rfl, h0⟩ | ⟨bt, o, c, rfl, _⟩
    · exact ⟨none, 0, by rw [h0]⟩
    · exact ⟨_, _, rfl⟩
  have HO : Hid (((w.alloc (.cells #[.int .i64 0, .int .i64 0, .int .i64 0, .int .i64 0, .slice none 0 0] 24)).alloc (.cells #[.slice none 0 0, .int .i64 0, .int .i64 s.size, (.slice anv nm.length cnv), .int .i64 i, .int .i64 j, .bool false, .int .i64 0] 70)).heap[w.heap.size]? = some (.cells zero5 24 (0, 0)) ∧ ((w.alloc (.cells #[.int .i64 0, .int .i64 0, .int .i64 0, .int .i64 0, .slice none 0 0] 24)).alloc (.cells #[.slice none 0 0, .int .i64 0, .int .i64 s.size, (.slice anv nm.length cnv), .int .i64 i, .int .i64 j, .bool false, .int .i64 0] 70)).heap[w.heap.size + 1]? = some (.cells #[.slice none 0 0, .int .i64 0, .int .i64 s.size, (.slice anv nm.length cnv), .int .i64 i, .int .i64 j, .bool false, .int .i64 0] 70) ∧ Below w.heap.size w ((w.alloc (.cells #[.int .i64 0, .int .i64 0, .int .i64 0, .int .i64 0, .slice none 0 0] 24)).alloc (.cells #[.slice none 0 0, .int .i64 0, .int .i64 s.size, (.slice anv nm.length cnv), .int .i64 i, .int .i64 j, .bool false, .int .i64 0] 70)) ∧ ((w.alloc (.cells #[.int .i64 0, .int .i64 0, .int .i64 0, .int .i64 0, .slice none 0 0] 24)).alloc (.cells #[.slice none 0 0, .int .i64 0, .int .i64 s.size, (.slice anv nm.length cnv), .int .i64 i, .int .i64 j, .bool false, .int .i64 0] 70)).heap.size = w.heap.size + 2) := Lib.hid (by
    refine ⟨(Lib.alloc_old _ _ _ (by simp)).trans (new_heap _ _ _), ?_, (below_alloc w _).trans ((below_alloc _ _).mono (by simp)), by simp⟩
    have := new_heap (w.alloc (.cells #[.int .i64 0, .int .i64 0, .int .i64 0, .int .i64 0, .slice none 0 0] 24)) #[.slice none 0 0, .int .i64 0, .int .i64 s.size, .slice anv nm.length cnv, .int .i64 i, .int .i64 j, .bool false, .int .i64 0] 70
    simpa using this)
  clear ht hl hN hlen hpl hcut
  go_enter Tryd.func18, Tryd.ntmps18
  go_wp2_with fail
  refine (lex_bad s _ toks p HL.out HS.out (HT.out.below HO.out.2.2.1)).mono ?_
  rintro e wa ⟨rfl, hba⟩
  have hsz := HO.out.2.2.2
  have hrca : wa.heap[w.heap.size + 1]? = some (.cells #[.slice none 0 0, .int .i64 0, .int .i64 s.size, .slice anv nm.length cnv, .int .i64 i, .int .i64 j, .bool false, .int .i64 0] 70 (0, 0)) := by rw [hba.block _ (by omega)]; exact HO.out.2.1
  have hrsa : wa.heap[w.heap.size]? = some (.cells zero5 24 (0, 0)) := by rw [hba.block _ (by omega)]; exact HO.out.1
  have HBA : Hid (Below w.heap.size w wa) := Lib.hid (HO.out.2.2.1.trans (hba.mono (by omega)))
  have HRCB : Hid ((wa.setCell ⟨w.heap.size + 1, 2, none⟩ (.int .i64 p)).heap[w.heap.size + 1]? = some (.cells #[.slice none 0 0, .int .i64 0, .int .i64 p, .slice anv nm.length cnv, .int .i64 i, .int .i64 j, .bool false, .int .i64 0] 70 (0, 0))) := Lib.hid (set1_at hrca 2 _)
  have HRSB : Hid ((wa.setCell ⟨w.heap.size + 1, 2, none⟩ (.int .i64 p)).heap[w.heap.size]? = some (.cells zero5 24 (0, 0))) := Lib.hid (by rw [Below.heap_setCell _ _ _ _ (by simp)]; exact hrsa)
  have HBB : Hid (Below w.heap.size w (wa.setCell ⟨w.heap.size + 1, 2, none⟩ (.int .i64 p))) := Lib.hid (HBA.out.setCell (p := ⟨w.heap.size + 1, 2, none⟩) (by simp) _)
  obtain ⟨c0, c1, c2, c3, c4, c5, c6, c7⟩ := cells8 hrca
  have f2 : wa.frozen? ⟨w.heap.size + 1, 2, none⟩ = false := by simp [World.frozen?, hrca]
  have hlta := (Array.getElem?_eq_some_iff.1 hrca).1
  clear hba hsz hrca hrsa
  go_wp2_with fail
  refine (lex_ok (s.extract 0 p) _ toks HCUT.out HX.out (HT.out.below HBB.out)).mono ?_
  rintro e w2 ⟨v, rfl, hown, hb2⟩
  obtain ⟨al, cl, rfl⟩ := own_form hown
  have hszb : w.heap.size + 2 ≤ (wa.setCell ⟨w.heap.size + 1, 2, none⟩ (.int .i64 p)).heap.size := (Array.getElem?_eq_some_iff.1 HRCB.out).1
  have hrc : w2.heap[w.heap.size + 1]? = some (.cells #[.slice none 0 0, .int .i64 0, .int .i64 p, .slice anv nm.length cnv, .int .i64 i, .int .i64 j, .bool false, .int .i64 0] 70 (0, 0)) := by rw [hb2.block _ (by omega)]; exact HRCB.out
  have hrs : w2.heap[w.heap.size]? = some (.cells zero5 24 (0, 0)) := by rw [hb2.block _ (by omega)]; exact HRSB.out
  have HB2 : Hid (Below w.heap.size w w2) := Lib.hid (HBB.out.trans (hb2.mono (by omega)))
  clear hb2 c0 c1 c2 c3 c4 c5 c6 c7 f2 hlta
  have HLV : Hid (∀ x, Value.ownBlock (.slice al toks.length cl) = some x → w.heap.size + 2 ≤ x) := Lib.hid (fun x hx => by have := (hown.lt x hx).1; omega)
  have HRR : Hid (Rr ⟨toks, i, j⟩ (.slice al toks.length cl) (p : Nat) (w.heap.size + 1) (w2.setCell ⟨w.heap.size + 1, 0, none⟩ (.slice al toks.length cl)) (.slice anv nm.length cnv) nm (.ok 0)) := Lib.hid (by
    have g1 : w2.grownBy (w2.setCell ⟨w.heap.size + 1, 0, none⟩ (.slice al toks.length cl)) (some (w.heap.size + 1)) := grown_set (grown_refl _ _) 0 _
    have gw : Below w.heap.size w (w2.setCell ⟨w.heap.size + 1, 0, none⟩ (.slice al toks.length cl)) := HB2.out.setCell (p := ⟨w.heap.size + 1, 0, none⟩) (by simp) _
    refine { cells := ⟨0, 0, ?_, rfl, Nat.zero_le _, rfl⟩, has := (Has.of_owns hown).grown g1 (fun he => by have := (hown.lt _ he).1; omega), far := fun he => by have := (hown.lt _ he).1; omega, hasN := HN.out.below gw, farN := fun he => by have h9 := HN.out.own_lt (w.heap.size + 1) he; omega, short := HTX.out, len := hlen2, lev := hij, tab := ⟨w, HT.out, gw, by omega⟩ }
    rw [set1_at hrc 0]
    rfl)
  have HG0 : Hid (Below w.heap.size w (w2.setCell ⟨w.heap.size + 1, 0, none⟩ (.slice al toks.length cl))) := Lib.hid (HB2.out.setCell (p := ⟨w.heap.size + 1, 0, none⟩) (by simp) _)
  have HRS : Hid ((w2.setCell ⟨w.heap.size + 1, 0, none⟩ (.slice al toks.length cl)).heap[w.heap.size]? = some (.cells zero5 24 (0, 0))) := Lib.hid (by rw [Below.heap_setCell _ _ _ _ (by simp)]; exact hrs)
  obtain ⟨c0, c1, c2, c3, c4, c5, c6, c7⟩ := cells8 hrc
  have f0 : w2.frozen? ⟨w.heap.size + 1, 0, none⟩ = false := by simp [World.frozen?, hrc]
  have hlt2 := (Array.getElem?_eq_some_iff.1 hrc).1
  clear hown hrc hrs
  go_wp2_with fail
  refine (termR_any (E := ⟨toks, i, j⟩) (toks.length + 1) (.slice anv nm.length cnv) nm 0 0 _ HRR.out (by simp) (by dsimp only; omega) (by decide)).mono ?_
  rintro e w4 ⟨t, a6, l6, c6', rfl, ht4, hv4⟩
  have HM4 : Hid (∀ k, (termM ⟨toks, i, j⟩ (toks.length + 1) nm 0 0).md = .ok k → k ≤ toks.length) := Lib.hid (fun k hk => by rw [hk] at ht4; exact ht4.1.le)
  generalize hr : termM ⟨toks, i, j⟩ (toks.length + 1) nm 0 0 = r at *
  have HRM : Hid (readM s.data.toList nm i j = r.bind fun t k => if k < toks.length ∨ ((some p) : Option Nat) ≠ none then .bad k else .ok t k) := Lib.hid (by
    unfold readM
    rw [HL.out]
    dsimp only
    rw [hr])
  have HT4 := Lib.hid ht4
  have HB4 : Hid (Below w.heap.size w w4) := Lib.hid (HG0.out.trans (below_of_grown ht4.2 (by omega) HG0.out.size))
  have hrs4 : w4.heap[w.heap.size]? = some (.cells zero5 24 (0, 0)) := by
    rw [ht4.2.block _ (by simp; omega) (by simp)]; exact HRS.out
  have HRS4 := Lib.hid hrs4
  clear ht4 hrs4 hr c0 c1 c2 c3 c4 c5 c6 c7 f0 hlt2
  unfold termV
  cases r with
  | bad q =>
    have HRES : Hid (readM s.data.toList nm i j = .bad q) := Lib.hid (by rw [HRM.out]; rfl)
    have HR5 := Lib.hid (HT4.out.1.kept (below_alloc w4 (.cells #[.int .i64 t.kd, .int .i64 t.ni, .int .i64 t.nj, .int .i64 t.nn, .slice a6 l6 c6'] 24)))
    have HB5 := Lib.hid (HB4.out.trans ((below_alloc w4 (.cells #[.int .i64 t.kd, .int .i64 t.ni, .int .i64 t.nj, .int .i64 t.nn, .slice a6 l6 c6'] 24)).mono HB4.out.size))
    have HS5 : Hid ((w4.alloc (.cells #[.int .i64 t.kd, .int .i64 t.ni, .int .i64 t.nj, .int .i64 t.nn, .slice a6 l6 c6'] 24)).heap[w.heap.size]? = some (.cells zero5 24 (0, 0))) := Lib.hid ((Lib.alloc_old _ _ _ (Array.getElem?_eq_some_iff.1 HRS4.out).1).trans HRS4.out)
    clear hv4
    have hz := HR5.out
    simp only [RR.md] at hz
    obtain ⟨kk, x', h0, h1, h2, d0, d1, d2, d3, d6, d7⟩ := hz.at'
    simp only [Md.isBad] at d6 h2
    have hx := h2 trivial
    have HXP : Hid (x' = (placeM s.data.toList q : Nat)) := Lib.hid (by rw [hx]; exact placeT_M _ _ _ HL.out q _ (by rfl))
    clear hz h2 hx
    obtain ⟨r0, r1, r2, r3, r4, g0, g1, g2, g3, g4⟩ := cells5 HS5.out
    go_wp2_with fail
    generalize w4.alloc (.cells #[.int .i64 t.kd, .int .i64 t.ni, .int .i64 t.nj, .int .i64 t.nn, .slice a6 l6 c6'] 24) = W5 at *
    go_quiet (fail)
    go_wp2_with fail
    have HZ := Lib.hid (zero_end2 HB5.out HS5.out (nq + 1))
    go_region
    all_goals
      go_wp2
      obtain ⟨W', hW', hbW, hrW⟩ := HZ.out
      rw [hW']
      obtain ⟨x0, x1, x2, x3, x4, _⟩ := cells5 hrW
      exact bodyPost_ret (v := .tuple #[termV 0 0 0 0 (.slice none 0 0), .int .i64 2, .int .i64 x']) (by simp [results, Tryd.results18, go_sem, x0, x1, x2, x3, x4, termV]) rfl (by rw [HRES.out]; exact ⟨by rw [HXP.out], hbW⟩)
  | ok t' k' =>
    obtain ⟨htt, hrep, hin4⟩ := hv4 t' k' rfl
    subst htt
    have hk'le := HM4.out k' rfl
    have HREP : Hid (RepT w4 t'.kids (.slice a6 l6 c6') ∧ t'.in4) := Lib.hid ⟨hrep.rep, hin4⟩
    have HR5 := Lib.hid (HT4.out.1.kept (below_alloc w4 (.cells #[.int .i64 t'.kd, .int .i64 t'.ni, .int .i64 t'.nj, .int .i64 t'.nn, .slice a6 l6 c6'] 24)))
    have HB5 := Lib.hid (HB4.out.trans ((below_alloc w4 (.cells #[.int .i64 t'.kd, .int .i64 t'.ni, .int .i64 t'.nj, .int .i64 t'.nn, .slice a6 l6 c6'] 24)).mono HB4.out.size))
    have HS5 : Hid ((w4.alloc (.cells #[.int .i64 t'.kd, .int .i64 t'.ni, .int .i64 t'.nj, .int .i64 t'.nn, .slice a6 l6 c6'] 24)).heap[w.heap.size]? = some (.cells zero5 24 (0, 0))) := Lib.hid ((Lib.alloc_old _ _ _ (Array.getElem?_eq_some_iff.1 HRS4.out).1).trans HRS4.out)
    have HT5 : Hid ((w4.alloc (.cells #[.int .i64 t'.kd, .int .i64 t'.ni, .int .i64 t'.nj, .int .i64 t'.nn, .slice a6 l6 c6'] 24)).heap[w4.heap.size]? = some (.cells #[.int .i64 t'.kd, .int .i64 t'.ni, .int .i64 t'.nj, .int .i64 t'.nn, .slice a6 l6 c6'] 24 (0, 0))) := Lib.hid (new_heap _ _ _)
    have HKP : Hid (RepT (w4.alloc (.cells #[.int .i64 t'.kd, .int .i64 t'.ni, .int .i64 t'.nj, .int .i64 t'.nn, .slice a6 l6 c6'] 24)) t'.kids (.slice a6 l6 c6')) := Lib.hid (HREP.out.1.kept (below_alloc _ _))
    have HKS : Hid (RepTS w4 (fun x => w.heap.size + 2 ≤ x) t'.kids (.slice a6 l6 c6')) := Lib.hid (hrep.kept (Nat.le_refl _) fun x hx _ => ⟨rfl, by have h9 := HG0.out.size; have h8 := HRR.out.lt; omega⟩)
    have hrw4 : w.heap.size < w4.heap.size := (Array.getElem?_eq_some_iff.1 HRS4.out).1
    have hnr : ¬ w4.heap.size = w.heap.size := by omega
    have hnr' : ¬ w.heap.size = w4.heap.size := by omega
    have HKS5 : Hid (RepTS (w4.alloc (.cells #[.int .i64 t'.kd, .int .i64 t'.ni, .int .i64 t'.nj, .int .i64 t'.nn, .slice a6 l6 c6'] 24)) (fun x => w.heap.size + 2 ≤ x) t'.kids (.slice a6 l6 c6')) := Lib.hid (HKS.out.kept (by simp) fun x hx hxl => ⟨Lib.alloc_old _ _ _ hxl, hx⟩)
    clear hv4 hrep hin4
    have hz := HR5.out
    simp only [RR.md] at hz
    have HR5k := Lib.hid hz
    obtain ⟨d0, d1, d2, d3, d4, d5, d6, d7⟩ := hz.at
    clear hz
    by_cases hk : k' < toks.length
    · have hkd : decide (k' < toks.length) = true := by simp; omega
      have hkd2 : decide ((k' : Int) < (toks.length : Int)) = true := by simp; omega
      have HRES : Hid (readM s.data.toList nm i j = .bad k') := Lib.hid (by rw [HRM.out, RR.bind_ok, if_pos (Or.inl hk)])
      go_wp2_with fail
      generalize w4.alloc (.cells #[.int .i64 t'.kd, .int .i64 t'.ni, .int .i64 t'.nj, .int .i64 t'.nn, .slice a6 l6 c6'] 24) = W5 at *
      go_quiet (fail)
      have HQ := Lib.hid (HR5k.out.drewN nq)
      obtain ⟨q0, q1, q2, q3, q4, q5, q6, q7⟩ := HQ.out.at
      go_wp2_with fail
      refine (fail_ok k' HQ.out).mono ?_
      rintro e w6 ⟨rfl, ht6⟩
      have HB6 : Hid (Below w.heap.size w w6) := Lib.hid ((HB5.out.trans (Below.mk rfl rfl rfl (Nat.le_refl _) (fun _ _ => rfl) : Below w.heap.size W5 (W5.drewN nq))).trans (below_of_grown ht6.2 (by omega) (by have := HB5.out.size; simpa using this)))
      have HS6 : Hid (w6.heap[w.heap.size]? = some (.cells zero5 24 (0, 0))) := Lib.hid (by
        rw [ht6.2.block w.heap.size (by simpa using (Array.getElem?_eq_some_iff.1 HS5.out).1) (by simp)]
        exact HS5.out)
      obtain ⟨kk, x', h0, h1, h2, s0, s1, s2, s3, s6, s7⟩ := ht6.1.at'
      simp only [Md.isBad] at s6 h2
      have hx := h2 trivial
      have HXP : Hid (x' = (placeM s.data.toList k' : Nat)) := Lib.hid (by rw [hx]; exact placeT_M _ _ _ HL.out k' _ (by rfl))
      clear h2 hx ht6 d0 d1 d2 d3 d4 d5 d6 d7 q0 q1 q2 q3 q4 q5 q6 q7
      obtain ⟨r0, r1, r2, r3, r4, g0, g1, g2, g3, g4⟩ := cells5 HS6.out
      go_wp2_with fail
      have HZ := Lib.hid (zero_end3 HB6.out HS6.out)
      go_region
      all_goals
        go_wp2
        obtain ⟨W', hW', hbW, hrW⟩ := HZ.out
        rw [hW']
        obtain ⟨x0, x1, x2, x3, x4, _⟩ := cells5 hrW
        exact bodyPost_ret (v := .tuple #[termV 0 0 0 0 (.slice none 0 0), .int .i64 2, .int .i64 x']) (by simp [results, Tryd.results18, go_sem, x0, x1, x2, x3, x4, termV]) rfl (by rw [HRES.out]; exact ⟨by rw [HXP.out], hbW⟩)
    · have hkd : decide (k' < toks.length) = false := by simp; omega
      have hkd2 : decide ((k' : Int) < (toks.length : Int)) = false := by simp; omega
      have HRES : Hid (readM s.data.toList nm i j = .bad k') := Lib.hid (by rw [HRM.out, RR.bind_ok, if_pos (Or.inr (by simp))])
      go_wp2_with fail
      generalize w4.alloc (.cells #[.int .i64 t'.kd, .int .i64 t'.ni, .int .i64 t'.nj, .int .i64 t'.nn, .slice a6 l6 c6'] 24) = W5 at *
      go_quiet (fail)
      have HQ := Lib.hid (HR5k.out.drewN nq)
      obtain ⟨q0, q1, q2, q3, q4, q5, q6, q7⟩ := HQ.out.at
      go_wp2_with fail
      refine (fail_ok k' HQ.out).mono ?_
      rintro e w6 ⟨rfl, ht6⟩
      have HB6 : Hid (Below w.heap.size w w6) := Lib.hid ((HB5.out.trans (Below.mk rfl rfl rfl (Nat.le_refl _) (fun _ _ => rfl) : Below w.heap.size W5 (W5.drewN nq))).trans (below_of_grown ht6.2 (by omega) (by have := HB5.out.size; simpa using this)))
      have HS6 : Hid (w6.heap[w.heap.size]? = some (.cells zero5 24 (0, 0))) := Lib.hid (by
        rw [ht6.2.block w.heap.size (by simpa using (Array.getElem?_eq_some_iff.1 HS5.out).1) (by simp)]
        exact HS5.out)
      obtain ⟨kk, x', h0, h1, h2, s0, s1, s2, s3, s6, s7⟩ := ht6.1.at'
      simp only [Md.isBad] at s6 h2
      have hx := h2 trivial
      have HXP : Hid (x' = (placeM s.data.toList k' : Nat)) := Lib.hid (by rw [hx]; exact placeT_M _ _ _ HL.out k' _ (by rfl))
      clear h2 hx ht6 d0 d1 d2 d3 d4 d5 d6 d7 q0 q1 q2 q3 q4 q5 q6 q7
      obtain ⟨r0, r1, r2, r3, r4, g0, g1, g2, g3, g4⟩ := cells5 HS6.out
      go_wp2_with fail
      have HZ := Lib.hid (zero_end3 HB6.out HS6.out)
      go_region
      all_goals
        go_wp2
        obtain ⟨W', hW', hbW, hrW⟩ := HZ.out
        rw [hW']
        obtain ⟨x0, x1, x2, x3, x4, _⟩ := cells5 hrW
        exact bodyPost_ret (v := .tuple #[termV 0 0 0 0 (.slice none 0 0), .int .i64 2, .int .i64 x']) (by simp [results, Tryd.results18, go_sem, x0, x1, x2, x3, x4, termV]) rfl (by rw [HRES.out]; exact ⟨by rw [HXP.out], hbW⟩)

/-- levels beyond the greatest -/
theorem read_arg (x y : Int) (hxy : x < 0 ∨ 1000 < x ∨ y < 0 ∨ 1000 < y) (_hx : In64 x) (_hy : In64 y) :
    Calls Tryd.prog 18 #[.string s, nv, .int .i64 x, .int .i64 y] w fun e w' => e = .returned (.tuple #[termV 0 0 0 0 (.slice none 0 0), .int .i64 1, .int .i64 0]) ∧ Below w.heap.size w w' := by
  have hres : (w.alloc (.cells #[.int .i64 0, .int .i64 0, .int .i64 0, .int .i64 0, .slice none 0 0] 24)).heap[w.heap.size]? = some (.cells zero5 24 (0, 0)) := new_heap _ _ _
  have HB := Lib.hid (below_alloc w (.cells #[.int .i64 0, .int .i64 0, .int .i64 0, .int .i64 0, .slice none 0 0] 24))
  obtain ⟨r0, r1, r2, r3, r4, g0, g1, g2, g3, g4⟩ := cells5 hres
  have hc : decide (x < 0) = true ∨ (decide (x < 0) = false ∧ decide ((1000 : Int) < x) = true) ∨ (decide (x < 0) = false ∧ decide ((1000 : Int) < x) = false ∧ decide (y < 0) = true) ∨ (decide (x < 0) = false ∧ decide ((1000 : Int) < x) = false ∧ decide (y < 0) = false ∧ decide ((1000 : Int) < y) = true) := by
    simp only [decide_eq_true_eq, decide_eq_false_iff_not]; omega
  clear hxy hres
  rcases hc with h1 | ⟨h1, h2⟩ | ⟨h1, h2, h3⟩ | ⟨h1, h2, h3, h4⟩
  all_goals
    go_enter Tryd.func18, Tryd.ntmps18
    go_wp2
    exact bodyPost_ret (v := .tuple #[termV 0 0 0 0 (.slice none 0 0), .int .i64 1, .int .i64 0]) (by simp [results, Tryd.results18, go_sem, r0, r1, r2, r3, r4, termV]) rfl ⟨rfl, HB.out⟩

theorem read_anyS (ht : Tab w) (hs : s.size ≤ 1099511627776) (hN : Has w 1 nv nm.length (textRow nm)) (hnl : nm.length ≤ 1099511627776) (hij : i ≤ 1000 ∧ j ≤ 1000) :
    Calls Tryd.prog 18 #[.string s, nv, .int .i64 i, .int .i64 j] w (ReadOutS w s.data.toList (readM s.data.toList nm i j)) := by
  rcases hq : lexL s.data.toList with ⟨toks, _ | p⟩
  · exact read_lexed s i j w ht hs hN hnl hij toks hq
  · exact read_cut s i j w ht hs hN hnl hij toks p hq
theorem read_any (ht : Tab w) (hs : s.size ≤ 1099511627776) (hN : Has w 1 nv nm.length (textRow nm)) (hnl : nm.length ≤ 1099511627776) (hij : i ≤ 1000 ∧ j ≤ 1000) :
    Calls Tryd.prog 18 #[.string s, nv, .int .i64 i, .int .i64 j] w (ReadOut w s.data.toList (readM s.data.toList nm i j)) :=
  (read_anyS s i j w ht hs hN hnl hij).mono fun _ _ h => h.weak
end
end Go.Proofs.YtfklmcmoackepaaDoor
