/- Walk of sig.At. -/
import Derived.Test.YtfklmcmoackepaaDoorSgC
namespace Go.Proofs.YtfklmcmoackepaaDoor
open Go.RowKit

theorem params_step {text : List UInt8} {l : List Tok} {i j f k : Nat} {nm : List (List UInt8)} {ps : List TT} {nm' : List (List UInt8)} {k' : Nat} (h : paramsM text l i j f k nm = some (ps, nm', k')) :
    (kindAt l k ≠ 1 ∧ ps = [] ∧ nm' = nm ∧ k' = k) ∨ (kindAt l k = 1 ∧ kindAt l (k + 1) = 3 ∧ ∃ t e ts f', oneM text l nm i j (k + 2) = some (t, e) ∧ kindAt l e = 2 ∧ paramsM text l i j f' (e + 1) (nm ++ [textAt l (k + 1)]) = some (ts, nm', k') ∧ ps = t :: ts) := by
  cases f with
  | zero => simp [paramsM] at h
  | succ f =>
    unfold paramsM at h
    by_cases h1 : kindAt l k ≠ 1
    · rw [if_pos h1] at h; cases h; exact .inl ⟨h1, rfl, rfl, rfl⟩
    rw [if_neg h1] at h
    by_cases h2 : kindAt l (k + 1) ≠ 3
    · rw [if_pos h2] at h; cases h
    rw [if_neg h2] at h
    split at h
    · cases h
    rename_i t e h3
    by_cases h5 : kindAt l e ≠ 2
    · rw [if_pos h5] at h; cases h
    rw [if_neg h5] at h
    split at h
    · cases h
    rename_i ts nm2 k2 h6
    cases h
    exact .inr ⟨by omega, by omega, t, e, ts, f, h3, by omega, h6, rfl⟩
theorem one_parts {text : List UInt8} {l : List Tok} {nm : List (List UInt8)} {i j a e : Nat} {t : TT} (h : oneM text l nm i j a = some (t, e)) :
    pieceM l l.length a 0 = some e ∧ (∃ q, readM (pieceT text l a e) nm i j = .ok t q) ∧ posAt l a ≤ endAt l e ∧ endAt l e ≤ text.length ∧ a < e ∧ e ≤ l.length := by
  unfold oneM at h
  split at h
  · cases h
  rename_i e1 he
  split at h
  · cases h
  rename_i t1 k1 hr
  split at h
  · rename_i hok
    cases h
    unfold okB at hok
    simp only [Bool.and_eq_true, decide_eq_true_eq] at hok
    exact ⟨he, ⟨_, hr⟩, hok.1.1, hok.1.2, (pieceM_lt he).1, (pieceM_lt he).2⟩
  · cases h
theorem piece_text (text : List UInt8) (l : List Tok) (a e : Nat) : ((ByteArray.mk text.toArray).extract (posAt l a) (endAt l e)).data.toList = pieceT text l a e := by
  unfold pieceT
  simp [List.extract_eq_take_drop]

/-- what sig.At ends in, at a line of the library -/
def AtOut (w : World) (s : LineM) (e : Ending) (w' : World) : Prop :=
  ∃ pv tv bv : Value, e = .returned (.tuple #[.agg (symCells ⟨s.name.toArray⟩ pv s.type.kd s.type.ni s.type.nj s.type.nn tv s.body.kd s.body.ni s.body.nj s.body.nn bv s.isDef), .bool true]) ∧ RepT w' s.params pv ∧ RepT w' s.type.kids tv ∧ RepT w' s.body.kids bv ∧ Below w.heap.size w w'

theorem lex_good (s : ByteArray) (w : World) (hs : s.size ≤ 1099511627776) (ht : Tab w) {toks : List Tok} (hl : lexL s.data.toList = (toks, none)) :
    Calls Tryd.prog 17 #[.string s] w fun e w' => ∃ v, e = .returned (.tuple #[v, .int .i64 0, .int .i64 0]) ∧ w'.ownsRow w.heap.size 51 3 v toks.length (toksCells toks) ∧ Below w.heap.size w w' := by
  refine (lex_any s w hs ht).mono fun e w' h => ?_
  rcases h with ⟨v, toks', h1, h2, h3, h4⟩ | ⟨toks', pos, h1, _⟩
  · rw [hl] at h1; cases h1; exact ⟨v, h2, h3, h4⟩
  · rw [hl] at h1; cases h1

set_option maxHeartbeats 20000000 in
set_option maxRecDepth 100000 in
theorem at_line (m i j : Nat) (hm : m < 21) (hi : i < 1000) (hj : j < 1000) {text : List UInt8} (htxt : (funcVals Tryd.f16)[m]? = some (.string ⟨text.toArray⟩)) (hsz : text.length ≤ 1099511627776) {s : LineM} (hs : lineM text i j = some s) (w : World) (ht : Tab w) :
    Calls Tryd.prog 6 #[.int .i64 ((m : Int) + 1), .int .i64 i, .int .i64 j] w (AtOut w s) := by
  obtain ⟨toks, hl, k0, k1, k2, k3, ps, nmE, kE, ty, bd, hps, hkE, hrest, rfl⟩ := line_parts hs
  have HT := Lib.hid ht
  have HL := Lib.hid hl
  have HK := Lib.hid (And.intro k0 (And.intro k1 (And.intro k2 k3)))
  have HPS := Lib.hid hps
  have HKE := Lib.hid hkE
  have HREST := Lib.hid hrest
  have HIJ := Lib.hid (And.intro hi hj)
  have HSZ : Hid ((ByteArray.mk text.toArray).size ≤ 1099511627776) := Lib.hid (by simpa [ByteArray.size] using hsz)
  have HLEN : Hid (toks.length ≤ 1099511627776) := Lib.hid (by have := lexL_length text; rw [hl] at this; dsimp only at this; omega)
  have HPOS : Hid (∀ k, posAt toks k ≤ 1099511627776) := Lib.hid (fun k => by
    rcases Nat.lt_or_ge k toks.length with h | h
    · have := spans_pos _ 0 toks (spans_lexL _ _ hl) k h
      simp only [posAt, List.getElem?_eq_getElem h, Option.map_some, Option.getD_some]; omega
    · simp [posAt, List.getElem?_eq_none h])
  have HTXL : Hid (∀ k, (textAt toks k).length ≤ 1099511627776) := Lib.hid (fun k => by
    have h1 := textAt_le ⟨text.toArray⟩ toks (by simpa using hl) k
    have h2 := HSZ.out
    omega)
  have g1 : decide ((m : Int) + 1 < 1) = false := by simp; omega
  have g2 : decide ((21 : Int) < (m : Int) + 1) = false := by simp; omega
  have g3 : decide ((i : Int) < 0) = false := by simp
  have g4 : decide ((1000 : Int) ≤ (i : Int)) = false := by simp; omega
  have g5 : decide ((j : Int) < 0) = false := by simp
  have g6 : decide ((1000 : Int) ≤ (j : Int)) = false := by simp; omega
  have hc0 : ((w.alloc (.cells (symCells ⟨#[]⟩ nilV 0 0 0 0 nilV 0 0 0 0 nilV false) 26)).alloc (.cells (funcVals Tryd.f16).toArray 9)).cell? ⟨w.heap.size + 1, m, none⟩ = some (.string ⟨text.toArray⟩) := by
    have := new_heap (w.alloc (.cells (symCells ⟨#[]⟩ nilV 0 0 0 0 nilV 0 0 0 0 nilV false) 26)) (funcVals Tryd.f16).toArray 9
    simp only [World.size_alloc] at this
    simp only [World.cell?, this]
    simpa using htxt
  have hr0 : ((w.alloc (.cells (symCells ⟨#[]⟩ nilV 0 0 0 0 nilV 0 0 0 0 nilV false) 26)).alloc (.cells (funcVals Tryd.f16).toArray 9)).heap[w.heap.size]? = some (.cells (symCells ⟨#[]⟩ nilV 0 0 0 0 nilV 0 0 0 0 nilV false) 26 (0, 0)) :=
    (Lib.alloc_old _ _ _ (by simp)).trans (new_heap _ _ _)
  have HB0 : Hid (Below w.heap.size w ((w.alloc (.cells (symCells ⟨#[]⟩ nilV 0 0 0 0 nilV 0 0 0 0 nilV false) 26)).alloc (.cells (funcVals Tryd.f16).toArray 9)) ∧ ((w.alloc (.cells (symCells ⟨#[]⟩ nilV 0 0 0 0 nilV 0 0 0 0 nilV false) 26)).alloc (.cells (funcVals Tryd.f16).toArray 9)).heap.size = w.heap.size + 2) := Lib.hid ⟨(below_alloc _ _).trans ((below_alloc _ _).mono (by simp)), by simp⟩
  have HC0 := Lib.hid hc0
  have HR0 := Lib.hid hr0
  clear ht hl k0 k1 k2 k3 hps hkE hrest hs htxt hsz hc0 hr0
  unfold symCells nilV at HC0 HB0 HR0
  go_enter Tryd.func6, Tryd.ntmps6
  go_wp2_with fail
  refine (library_any _).mono ?_
  rintro e _ ⟨rfl, rfl⟩
  generalize funcVals Tryd.f16 = fv at *
  have hc0 := HC0.out
  have hs0 := HB0.out.2
  generalize (w.alloc (.cells #[.string ⟨#[]⟩, .slice none 0 0, .int .i64 0, .int .i64 0, .int .i64 0, .int .i64 0, .slice none 0 0, .int .i64 0, .int .i64 0, .int .i64 0, .int .i64 0, .slice none 0 0, .bool false] 26)).alloc (.cells fv.toArray 9) = W0 at *
  go_wp2_with fail
  have HBX := Lib.hid (below_alloc W0 (.cells #[.string ⟨text.toArray⟩, .slice none 0 0, .int .i64 3] 46))
  have HXL := Lib.hid (new_heap W0 #[.string ⟨text.toArray⟩, .slice none 0 0, .int .i64 3] 46)
  refine (lex_good _ _ HSZ.out (HT.out.below (HB0.out.1.trans (HBX.out.mono HB0.out.1.size))) (toks := toks) HL.out).mono ?_
  rintro e w1 ⟨lv, rfl, hown, hb1⟩
  obtain ⟨al, cl, rfl⟩ := own_form hown
  have hx1 := (hb1.block _ (by simp)).trans HXL.out
  rw [hs0] at hx1
  have hw1 : w.heap.size + 3 ≤ w1.heap.size := by have := hb1.size; simp at this; omega
  have hlv : ∀ x, (Value.slice al toks.length cl).ownBlock = some x → w.heap.size + 3 ≤ x ∧ x < w1.heap.size := fun x hx => by have := hown.lt x hx; simp at this; omega
  have HL0 : Hid (Lx ⟨text.toArray⟩ toks (.slice al toks.length cl) (w.heap.size + 2) (w1.setCell ⟨w.heap.size + 2, 1, none⟩ (.slice al toks.length cl)) 3) := Lib.hid ⟨set1_at hx1 1 _, (Has.of_owns hown).grown (grown_set (grown_refl w1 (some (w.heap.size + 2))) 1 _) (fun he => by have := hlv _ he; omega), fun he => by have := hlv _ he; omega⟩
  have HLV := Lib.hid hlv
  have HB1 : Hid (Below w.heap.size w (w1.setCell ⟨w.heap.size + 2, 1, none⟩ (.slice al toks.length cl))) := Lib.hid ((HB0.out.1.trans ((HBX.out.trans (hb1.mono (by simp))).mono HB0.out.1.size)).setCell (p := ⟨w.heap.size + 2, 1, none⟩) (by show w.heap.size ≤ w.heap.size + 2; omega) _)
  have HR1 : Hid ((w1.setCell ⟨w.heap.size + 2, 1, none⟩ (.slice al toks.length cl)).heap[w.heap.size]? = some (.cells (symCells ⟨#[]⟩ nilV 0 0 0 0 nilV 0 0 0 0 nilV false) 26 (0, 0))) := Lib.hid (by
    rw [Below.heap_setCell _ _ _ _ (show w.heap.size ≠ w.heap.size + 2 by omega), hb1.block _ (by simp; omega), Lib.alloc_old _ _ _ (by omega)]
    exact HR0.out)
  have hss : (w1.setCell ⟨w.heap.size + 2, 1, none⟩ (.slice al toks.length cl)).heap.size = w1.heap.size := by simp [World.setCell]
  have hc1 : w1.cell? ⟨w.heap.size + 2, 1, none⟩ = some (.slice none 0 0) := by simp [World.cell?, hx1]
  have hf1 : w1.frozen? ⟨w.heap.size + 2, 1, none⟩ = false := by simp [World.frozen?, hx1]
  have hbl : w.heap.size + 2 < w1.heap.size := by omega
  have htl : 3 < toks.length := kindAt_lt (l := toks) (k := 3) (by rw [HK.out.2.2.2]; omega)
  clear hown hb1 hx1 hlv hc0
  go_upto_region 5 with fail
  generalize w1.setCell ⟨w.heap.size + 2, 1, none⟩ (.slice al toks.length cl) = W1 at *
  rw [← hss] at hw1
  clear hss hc1 hf1 hbl
  obtain ⟨bt, o, c, hlv0, hn, hbt, hne, t0, t1, t2⟩ := HL0.out.tok htl 2 (by omega)
  injection hlv0 with y1 y2 y3
  subst y1 y3
  obtain ⟨bt', o', c', hlv', _, _, _, q0, q1, q2⟩ := HL0.out.tok htl 1 (by omega)
  injection hlv' with z1 z2 z3
  injection z1 with z1
  injection z1 with z1 z4
  subst z1 z4 z3
  obtain ⟨c0, c1, c2⟩ := HL0.out.at
  have hdd : (textAt toks 1 == [100, 101, 102]) = decide (textAt toks 1 = wDef) := by
    unfold wDef
    by_cases h : textAt toks 1 = [100, 101, 102]
    · rw [h]; decide
    · rw [decide_eq_false h]; exact beq_eq_false_iff_ne.2 h
  have HD : Hid (∃ d, decide (textAt toks 1 = wDef) = d) := Lib.hid ⟨_, rfl⟩
  obtain ⟨d, hd⟩ := HD.out
  have HDD := Lib.hid hd
  rw [hd] at hdd
  clear hd HD
  have HNM : Hid (∃ tx, textAt toks 2 = tx) := Lib.hid ⟨_, rfl⟩
  obtain ⟨tx2, h2⟩ := HNM.out
  have HTX2 := Lib.hid h2
  rw [h2] at t1
  clear h2 HNM
  generalize htx1 : textAt toks 1 = tx1 at q1 hdd HDD ⊢
  have HTX1 := Lib.hid htx1
  clear htx1
  have hWb : w.heap.size + 2 < W1.heap.size := by omega
  have u1 : W1.cell? ⟨bt, o + 6 + 1, none⟩ = some (.string ⟨tx2.toArray⟩) := t1
  have v1 : W1.cell? ⟨bt, o + 3 + 1, none⟩ = some (.string ⟨tx1.toArray⟩) := q1
  have o1 := fresh_old (w := W1) (t := 26) 1 #[.string ⟨#[]⟩, .slice none 0 0, .int .i64 0, .int .i64 0, .int .i64 0, .int .i64 0, .slice none 0 0, .int .i64 0, .int .i64 0, .int .i64 0, .int .i64 0, .slice none 0 0, .bool false] (p := ⟨w.heap.size + 2, 1, none⟩) hWb
  have ou := fresh_old (w := W1) (t := 26) 1 #[.string ⟨#[]⟩, .slice none 0 0, .int .i64 0, .int .i64 0, .int .i64 0, .int .i64 0, .slice none 0 0, .int .i64 0, .int .i64 0, .int .i64 0, .int .i64 0, .slice none 0 0, .bool false] (p := ⟨bt, o + 6 + 1, none⟩) hbt
  have ov := fresh_old (w := W1) (t := 26) 1 #[.string ⟨#[]⟩, .slice none 0 0, .int .i64 0, .int .i64 0, .int .i64 0, .int .i64 0, .slice none 0 0, .int .i64 0, .int .i64 0, .int .i64 0, .int .i64 0, .slice none 0 0, .bool false] (p := ⟨bt, o + 3 + 1, none⟩) hbt
  rw [c1] at o1
  rw [u1] at ou
  rw [v1] at ov
  have w1 : (2 : Int) < (toks.length : Int) := by omega
  have w2 : (1 : Int) < (toks.length : Int) := by omega
  have w3 : 2 < toks.length := by omega
  have w4 : 1 < toks.length := by omega
  clear t0 t1 t2 q0 q1 q2
  go_region
  go_upto_region 6 with fail
  have HP0 : Hid (PA ⟨text.toArray⟩ toks (.slice (some ⟨bt, o, none⟩) toks.length cl) w W1.heap.size ⟨tx2.toArray⟩ d [] nilV [] nilV (W1.alloc (.cells #[.string ⟨tx2.toArray⟩, .slice none 0 0, .int .i64 0, .int .i64 0, .int .i64 0, .int .i64 0, .slice none 0 0, .int .i64 0, .int .i64 0, .int .i64 0, .int .i64 0, .slice none 0 0, .bool d] 26)).drew 3) := Lib.hid (by
    have hb : Below W1.heap.size W1 (W1.alloc (.cells #[.string ⟨tx2.toArray⟩, .slice none 0 0, .int .i64 0, .int .i64 0, .int .i64 0, .int .i64 0, .slice none 0 0, .int .i64 0, .int .i64 0, .int .i64 0, .int .i64 0, .slice none 0 0, .bool d] 26)).drew := (below_alloc _ _).drew
    refine { line := HL0.out.kept hb, big := hw1, sym := by rw [drew_heap]; exact new_heap _ _ _, res := (hb.block _ (by omega)).trans HR1.out, low := HB1.out.trans (hb.mono HB1.out.size), names := World.ownsRow_nil _ _ _ _, pars := World.ownsRow_nil _ _ _ _, apart := fun x hx => by simp [Value.ownBlock] at hx, lfar := fun x hx => by simp only [Value.ownBlock, Option.some.injEq] at hx; omega, kids := fun p hp => by simp at hp })
  generalize (W1.alloc (.cells #[.string ⟨tx2.toArray⟩, .slice none 0 0, .int .i64 0, .int .i64 0, .int .i64 0, .int .i64 0, .slice none 0 0, .int .i64 0, .int .i64 0, .int .i64 0, .int .i64 0, .slice none 0 0, .bool d] 26)).drew = W2 at *
  have hbs := HP0.out.lt
  have hbig := HP0.out.big
  generalize W1.heap.size = bs at *
  clear o1 ou ov w1 w2 w3 w4 u1 v1 c0 c1 c2 hbt
  obtain ⟨c0, c1, c2⟩ := HP0.out.line.at
  have f2 := HP0.out.line.fz 2
  have hbl := HP0.out.line.lt
  have HP1 := Lib.hid (HP0.out.step 4)
  go_wp2_with fail
  clear c0 c1 c2 f2
  go_loopw [10] (fun nvv wr => ∃ (nm : List (List UInt8)) (rows : List (TT × Value)) (pv : Value) (k f : Nat) (psr : List TT), PA ⟨text.toArray⟩ toks (.slice (some ⟨bt, o, none⟩) toks.length cl) w bs ⟨tx2.toArray⟩ d nm nvv rows pv wr k ∧ rows.length ≤ k ∧ nm.length = rows.length ∧ paramsM text toks i j f k nm = some (psr, nmE, kE) ∧ rows.map Prod.fst ++ psr = ps) (fun _ wr => measL (w.heap.size + 2) toks.length wr)
  case atStart => exact ⟨[], [], nilV, 4, toks.length, ps, HP1.out, by simp, rfl, HPS.out, rfl⟩
  case round =>
    obtain ⟨nm, rows, pv, k, f, psr, hpa, hrk, hnr, hpm, hps⟩ := hrel
    have hst := params_step hpm
    obtain ⟨an, cn, rfl⟩ := own_form hpa.names
    obtain ⟨ap, cp, rfl⟩ := own_form hpa.pars
    have HA := Lib.hid hpa
    have HST := Lib.hid hst
    have HQ := Lib.hid (And.intro hrk (And.intro hnr hps))
    have HM := Lib.hid (measL_is hpa.line toks.length)
    obtain ⟨c0, c1, c2⟩ := hpa.line.at
    clear hpa hst hrk hnr hps hpm
    rcases HST.out with ⟨hk1, hz1, hz2, hz3⟩ | ⟨hk1, hk3, t, e, ts, f', hone, hke, hpm, rfl⟩
    · have hz2 := hz2.symm
      have hz3 := hz3.symm
      subst hz1 hz2 hz3
      have HK2 : Hid (kindAt toks k = 2) := Lib.hid HKE.out
      have hkl : k < toks.length := kindAt_lt (by rw [HK2.out]; omega)
      obtain ⟨bt', o', c', hlv0, hn9, hbtr, _, t0, _, _⟩ := HA.out.line.tok hkl k hkl
      injection hlv0 with y1 y2 y3
      injection y1 with y1
      injection y1 with y1 y4
      subst y1 y4 y3
      rw [HK2.out] at t0
      have d1 : decide (toks.length ≤ k) = false := by simp; omega
      have d2 : decide ((toks.length : Int) ≤ (k : Int)) = false := by simp; omega
      have d3 : (k : Int) < (toks.length : Int) := by omega
      have hlen := HLEN.out
      have HNM41 : Hid (nm.length ≤ 1099511627776) := Lib.hid (by have h1 := HQ.out.1; have h2 := HQ.out.2.1; omega)
      clear hk1 HST
      go_wp2_with fail
      go_quiet (fail)
      revert nq
      intro n1
      go_upto_region 15 with fail
      have hA1 := HA.out.drewN n1
      generalize wr.drewN n1 = Wa at *
      obtain ⟨hB0, hR0⟩ := hA1.done
      have HB1x : Hid (PB ⟨text.toArray⟩ toks (.slice (some ⟨bt, o, none⟩) toks.length cl) w bs nm (.slice an nm.length cn) (symCells ⟨tx2.toArray⟩ (.slice ap rows.length cp) 0 0 0 0 nilV 0 0 0 0 nilV d) (Wa.setCell ⟨w.heap.size + 2, 2, none⟩ (.int .i64 ((k : Int) + 1))) (k + 1)) := Lib.hid (hB0.step (k + 1))
      have HPAR1 : Hid (RepTS (Wa.setCell ⟨w.heap.size + 2, 2, none⟩ (.int .i64 ((k : Int) + 1))) (fun x => bs + 1 ≤ x) (rows.map Prod.fst) (.slice ap rows.length cp)) := Lib.hid (hR0.kp (Kp.set _ 2 _ (by omega)))
      clear c0 c1 c2 t0 d1 d2 d3 hbtr
      obtain ⟨c0, c1, c2⟩ := hA1.line.at
      have f2 := hA1.line.fz 2
      have hbl9 := hA1.line.lt
      clear hA1 hB0 hR0
      go_wp2_with fail
      clear c0 c1 c2 f2 hbl9
      generalize Wa.setCell ⟨w.heap.size + 2, 2, none⟩ (.int .i64 ((k : Int) + 1)) = Wb at *
      obtain ⟨k2, hone, hor⟩ := rest_parts HREST.out
      have HOR := Lib.hid hor
      clear hor
      obtain ⟨hpc, ⟨q, hrd⟩, hp1, hp2, hae, hel⟩ := one_parts hone
      have HRDT : Hid (readM ((ByteArray.mk text.toArray).extract (posAt toks (k + 1)) (endAt toks k2)).data.toList nm i j = .ok ty q) := Lib.hid (by rw [piece_text]; exact hrd)
      refine (piece_any HB1x.out.line hpc HLEN.out hp1 (by simpa [ByteArray.size] using hp2) HSZ.out HPOS.out HTXL.out).mono ?_
      rintro en w6T ⟨rfl, hl6, hg6⟩
      have HB3T := Lib.hid (HB1x.out.move hl6 hg6)
      have HK3T : Hid (Kp (bs + 1) Wb w6T) := Lib.hid (Kp.grown hg6 (by omega))
      clear hl6 hg6 hpc hrd hp1 hp2 hae hel
      go_wp2_with fail
      have HXST : Hid (((ByteArray.mk text.toArray).extract (posAt toks (k + 1)) (endAt toks k2)).size ≤ 1099511627776) := Lib.hid (by
        have h1 := HSZ.out
        have h2 : ((ByteArray.mk text.toArray).extract (posAt toks (k + 1)) (endAt toks k2)).size ≤ (ByteArray.mk text.toArray).size := by rw [ByteArray.size_extract]; omega
        omega)
      refine (read_anyS _ i j w6T (HT.out.below HB3T.out.low) HXST.out HB3T.out.names HNM41.out (by have := HIJ.out; omega)).mono ?_
      intro en w7T hro
      rw [HRDT.out] at hro
      obtain ⟨aT, lT, cT, rfl, hrep, hin4, hb7⟩ := hro
      have HB4T := Lib.hid (HB3T.out.below hb7)
      have HK4T : Hid (Kp (bs + 1) Wb w7T) := Lib.hid (HK3T.out.trans (Kp.below hb7))
      have HVT : Hid (RepTS w7T (fun x => bs + 1 ≤ x) ty.kids (.slice aT lT cT)) := Lib.hid (hrep.kept (Nat.le_refl _) fun x hx _ => ⟨rfl, by have := HB3T.out.lt; omega⟩)
      clear hrep hin4 hb7
      unfold termV
      clear hone
      obtain ⟨s0, s1, s2, s3, s4, s5, s6, s7, s8, s9, s10, s11, s12, p0, p1, p2, p3, p4, p5, p6, p7, p8, p9, p10, p11, p12⟩ := cells13 HB4T.out.sym
      have hlt9 := HB4T.out.lt
      have HB5 : Hid (PB ⟨text.toArray⟩ toks (.slice (some ⟨bt, o, none⟩) toks.length cl) w bs nm (.slice an nm.length cn) #[.string ⟨tx2.toArray⟩, .slice ap rows.length cp, .int .i64 ty.kd, .int .i64 ty.ni, .int .i64 ty.nj, .int .i64 ty.nn, .slice aT lT cT, .int .i64 0, .int .i64 0, .int .i64 0, .int .i64 0, .slice none 0 0, .bool d] (((((w7T.setCell ⟨bs, 2, none⟩ (.int .i64 ty.kd)).setCell ⟨bs, 3, none⟩ (.int .i64 ty.ni)).setCell ⟨bs, 4, none⟩ (.int .i64 ty.nj)).setCell ⟨bs, 5, none⟩ (.int .i64 ty.nn)).setCell ⟨bs, 6, none⟩ (.slice aT lT cT)) k2) := Lib.hid (((((HB4T.out.set 2 (.int .i64 ty.kd)).set 3 (.int .i64 ty.ni)).set 4 (.int .i64 ty.nj)).set 5 (.int .i64 ty.nn)).set 6 (.slice aT lT cT))
      have HK5 : Hid (Kp (bs + 1) w7T (((((w7T.setCell ⟨bs, 2, none⟩ (.int .i64 ty.kd)).setCell ⟨bs, 3, none⟩ (.int .i64 ty.ni)).setCell ⟨bs, 4, none⟩ (.int .i64 ty.nj)).setCell ⟨bs, 5, none⟩ (.int .i64 ty.nn)).setCell ⟨bs, 6, none⟩ (.slice aT lT cT))) := Lib.hid (((((Kp.set w7T 2 _ (Nat.lt_succ_self bs)).trans (Kp.set _ 3 _ (Nat.lt_succ_self bs))).trans (Kp.set _ 4 _ (Nat.lt_succ_self bs))).trans (Kp.set _ 5 _ (Nat.lt_succ_self bs))).trans (Kp.set _ 6 _ (Nat.lt_succ_self bs)))
      go_upto_region 17 with fail
      clear s0 s1 s2 s3 s4 s5 s6 s7 s8 s9 s10 s11 s12 p0 p1 p2 p3 p4 p5 p6 p7 p8 p9 p10 p11 p12 hlt9
      generalize (((((w7T.setCell ⟨bs, 2, none⟩ (.int .i64 ty.kd)).setCell ⟨bs, 3, none⟩ (.int .i64 ty.ni)).setCell ⟨bs, 4, none⟩ (.int .i64 ty.nj)).setCell ⟨bs, 5, none⟩ (.int .i64 ty.nn)).setCell ⟨bs, 6, none⟩ (.slice aT lT cT)) = Wc at *
      have HPAR2 := Lib.hid (HPAR1.out.kp (HK4T.out.trans HK5.out))
      have HTY2 := Lib.hid (HVT.out.kp HK5.out)
      rcases HOR.out with ⟨hdef, k3, hone, hk3⟩ | ⟨hdef, rfl, hk3⟩
      · have hd1 : d = true := by rw [← HDD.out, ← HTX1.out]; exact decide_eq_true hdef
        clear hdef hk3
        subst hd1
        obtain ⟨s0, s1, s2, s3, s4, s5, s6, s7, s8, s9, s10, s11, s12, p0, p1, p2, p3, p4, p5, p6, p7, p8, p9, p10, p11, p12⟩ := cells13 HB5.out.sym
        go_wp2_with fail
        clear s0 s1 s2 s3 s4 s5 s6 s7 s8 s9 s10 s11 s12 p0 p1 p2 p3 p4 p5 p6 p7 p8 p9 p10 p11 p12
        obtain ⟨hpc, ⟨q, hrd⟩, hp1, hp2, hae, hel⟩ := one_parts hone
        have HRDD : Hid (readM ((ByteArray.mk text.toArray).extract (posAt toks (k2)) (endAt toks k3)).data.toList nm i j = .ok bd q) := Lib.hid (by rw [piece_text]; exact hrd)
        refine (piece_any HB5.out.line hpc HLEN.out hp1 (by simpa [ByteArray.size] using hp2) HSZ.out HPOS.out HTXL.out).mono ?_
        rintro en w6D ⟨rfl, hl6, hg6⟩
        have HB3D := Lib.hid (HB5.out.move hl6 hg6)
        have HK3D : Hid (Kp (bs + 1) Wc w6D) := Lib.hid (Kp.grown hg6 (by omega))
        clear hl6 hg6 hpc hrd hp1 hp2 hae hel
        go_wp2_with fail
        have HXSD : Hid (((ByteArray.mk text.toArray).extract (posAt toks (k2)) (endAt toks k3)).size ≤ 1099511627776) := Lib.hid (by
          have h1 := HSZ.out
          have h2 : ((ByteArray.mk text.toArray).extract (posAt toks (k2)) (endAt toks k3)).size ≤ (ByteArray.mk text.toArray).size := by rw [ByteArray.size_extract]; omega
          omega)
        refine (read_anyS _ i j w6D (HT.out.below HB3D.out.low) HXSD.out HB3D.out.names HNM41.out (by have := HIJ.out; omega)).mono ?_
        intro en w7D hro
        rw [HRDD.out] at hro
        obtain ⟨aD, lD, cD, rfl, hrep, hin4, hb7⟩ := hro
        have HB4D := Lib.hid (HB3D.out.below hb7)
        have HK4D : Hid (Kp (bs + 1) Wc w7D) := Lib.hid (HK3D.out.trans (Kp.below hb7))
        have HVD : Hid (RepTS w7D (fun x => bs + 1 ≤ x) bd.kids (.slice aD lD cD)) := Lib.hid (hrep.kept (Nat.le_refl _) fun x hx _ => ⟨rfl, by have := HB3D.out.lt; omega⟩)
        clear hrep hin4 hb7
        unfold termV
        clear hone
        obtain ⟨s0, s1, s2, s3, s4, s5, s6, s7, s8, s9, s10, s11, s12, p0, p1, p2, p3, p4, p5, p6, p7, p8, p9, p10, p11, p12⟩ := cells13 HB4D.out.sym
        have hlt9 := HB4D.out.lt
        have HB6 : Hid (PB ⟨text.toArray⟩ toks (.slice (some ⟨bt, o, none⟩) toks.length cl) w bs nm (.slice an nm.length cn) #[.string ⟨tx2.toArray⟩, .slice ap rows.length cp, .int .i64 ty.kd, .int .i64 ty.ni, .int .i64 ty.nj, .int .i64 ty.nn, .slice aT lT cT, .int .i64 bd.kd, .int .i64 bd.ni, .int .i64 bd.nj, .int .i64 bd.nn, .slice aD lD cD, .bool true] (((((w7D.setCell ⟨bs, 7, none⟩ (.int .i64 bd.kd)).setCell ⟨bs, 8, none⟩ (.int .i64 bd.ni)).setCell ⟨bs, 9, none⟩ (.int .i64 bd.nj)).setCell ⟨bs, 10, none⟩ (.int .i64 bd.nn)).setCell ⟨bs, 11, none⟩ (.slice aD lD cD)) k3) := Lib.hid (((((HB4D.out.set 7 (.int .i64 bd.kd)).set 8 (.int .i64 bd.ni)).set 9 (.int .i64 bd.nj)).set 10 (.int .i64 bd.nn)).set 11 (.slice aD lD cD))
        have HK6 : Hid (Kp (bs + 1) w7D (((((w7D.setCell ⟨bs, 7, none⟩ (.int .i64 bd.kd)).setCell ⟨bs, 8, none⟩ (.int .i64 bd.ni)).setCell ⟨bs, 9, none⟩ (.int .i64 bd.nj)).setCell ⟨bs, 10, none⟩ (.int .i64 bd.nn)).setCell ⟨bs, 11, none⟩ (.slice aD lD cD))) := Lib.hid (((((Kp.set w7D 7 _ (Nat.lt_succ_self bs)).trans (Kp.set _ 8 _ (Nat.lt_succ_self bs))).trans (Kp.set _ 9 _ (Nat.lt_succ_self bs))).trans (Kp.set _ 10 _ (Nat.lt_succ_self bs))).trans (Kp.set _ 11 _ (Nat.lt_succ_self bs)))
        go_upto_region 19 with fail
        clear s0 s1 s2 s3 s4 s5 s6 s7 s8 s9 s10 s11 s12 p0 p1 p2 p3 p4 p5 p6 p7 p8 p9 p10 p11 p12 hlt9
        generalize (((((w7D.setCell ⟨bs, 7, none⟩ (.int .i64 bd.kd)).setCell ⟨bs, 8, none⟩ (.int .i64 bd.ni)).setCell ⟨bs, 9, none⟩ (.int .i64 bd.nj)).setCell ⟨bs, 10, none⟩ (.int .i64 bd.nn)).setCell ⟨bs, 11, none⟩ (.slice aD lD cD)) = Wd at *
        have HPAR3 := Lib.hid (HPAR2.out.kp (HK4D.out.trans HK6.out))
        have HTY3 := Lib.hid (HTY2.out.kp (HK4D.out.trans HK6.out))
        have HBD3 := Lib.hid (HVD.out.kp HK6.out)
        obtain ⟨s0, s1, s2, s3, s4, s5, s6, s7, s8, s9, s10, s11, s12, _⟩ := cells13 HB6.out.sym
        obtain ⟨r0, r1, r2, r3, r4, r5, r6, r7, r8, r9, r10, r11, r12, g0, g1, g2, g3, g4, g5, g6, g7, g8, g9, g10, g11, g12⟩ := cells13 HB6.out.res
        have hlt9 := HB6.out.lt
        have hbg9 := HB6.out.big
        have hne1 : ¬ bs = w.heap.size := by omega
        have hne2 : ¬ w.heap.size = bs := by omega
        have hw9 : w.heap.size < Wd.heap.size := by omega
        have HAT := Lib.hid (set13_at HB6.out.res (.string ⟨tx2.toArray⟩) (.slice ap rows.length cp) (.int .i64 ty.kd) (.int .i64 ty.ni) (.int .i64 ty.nj) (.int .i64 ty.nn) (.slice aT lT cT) (.int .i64 bd.kd) (.int .i64 bd.ni) (.int .i64 bd.nj) (.int .i64 bd.nn) (.slice aD lD cD) (.bool true))
        have HFIN : Hid (AtOut w ⟨textAt toks 2, rows.map Prod.fst ++ [], ty, bd, decide (tx1 = wDef)⟩ (.returned (.tuple #[.agg #[.string ⟨tx2.toArray⟩, .slice ap rows.length cp, .int .i64 ty.kd, .int .i64 ty.ni, .int .i64 ty.nj, .int .i64 ty.nn, .slice aT lT cT, .int .i64 bd.kd, .int .i64 bd.ni, .int .i64 bd.nj, .int .i64 bd.nn, .slice aD lD cD, .bool true], .bool true])) (set13 Wd w.heap.size (.string ⟨tx2.toArray⟩) (.slice ap rows.length cp) (.int .i64 ty.kd) (.int .i64 ty.ni) (.int .i64 ty.nj) (.int .i64 ty.nn) (.slice aT lT cT) (.int .i64 bd.kd) (.int .i64 bd.ni) (.int .i64 bd.nj) (.int .i64 bd.nn) (.slice aD lD cD) (.bool true))) := Lib.hid (by
          have hk : Kp (bs + 1) Wd (set13 Wd w.heap.size (.string ⟨tx2.toArray⟩) (.slice ap rows.length cp) (.int .i64 ty.kd) (.int .i64 ty.ni) (.int .i64 ty.nj) (.int .i64 ty.nn) (.slice aT lT cT) (.int .i64 bd.kd) (.int .i64 bd.ni) (.int .i64 bd.nj) (.int .i64 bd.nn) (.slice aD lD cD) (.bool true)) := Kp.grown (set13_grown _ _ _ _ _ _ _ _ _ _ _ _ _ _ _) (by omega)
          refine ⟨.slice ap rows.length cp, .slice aT lT cT, .slice aD lD cD, ?_, ?_, ?_, ?_, ?_⟩
          · rw [HTX2.out, HDD.out]; rfl
          · rw [List.append_nil]; exact (HPAR3.out.kp hk).rep
          · exact (HTY3.out.kp hk).rep
          · exact (HBD3.out.kp hk).rep
          · exact HB6.out.low.trans (below_of_grown (set13_grown _ _ _ _ _ _ _ _ _ _ _ _ _ _ _) (Nat.le_refl _) HB6.out.low.size))
        unfold set13 at HAT HFIN
        go_wp2
        obtain ⟨x0, x1, x2, x3, x4, x5, x6, x7, x8, x9, x10, x11, x12, _⟩ := cells13 HAT.out
        have hfin := HFIN.out
        rw [HQ.out.2.2, ← HTX1.out] at hfin
        exact bodyPost_ret (v := .tuple #[.agg #[.string ⟨tx2.toArray⟩, .slice ap rows.length cp, .int .i64 ty.kd, .int .i64 ty.ni, .int .i64 ty.nj, .int .i64 ty.nn, .slice aT lT cT, .int .i64 bd.kd, .int .i64 bd.ni, .int .i64 bd.nj, .int .i64 bd.nn, .slice aD lD cD, .bool true], .bool true]) (by simp [results, Tryd.results6, go_sem, x0, x1, x2, x3, x4, x5, x6, x7, x8, x9, x10, x11, x12]) rfl hfin
      · have hd1 : d = false := by rw [← HDD.out, ← HTX1.out]; exact decide_eq_false hdef
        clear hdef hk3
        subst hd1
        obtain ⟨s0, s1, s2, s3, s4, s5, s6, s7, s8, s9, s10, s11, s12, _⟩ := cells13 HB5.out.sym
        obtain ⟨r0, r1, r2, r3, r4, r5, r6, r7, r8, r9, r10, r11, r12, g0, g1, g2, g3, g4, g5, g6, g7, g8, g9, g10, g11, g12⟩ := cells13 HB5.out.res
        have hlt9 := HB5.out.lt
        have hbg9 := HB5.out.big
        have hne1 : ¬ bs = w.heap.size := by omega
        have hne2 : ¬ w.heap.size = bs := by omega
        have hw9 : w.heap.size < Wc.heap.size := by omega
        have HAT := Lib.hid (set13_at HB5.out.res (.string ⟨tx2.toArray⟩) (.slice ap rows.length cp) (.int .i64 ty.kd) (.int .i64 ty.ni) (.int .i64 ty.nj) (.int .i64 ty.nn) (.slice aT lT cT) (.int .i64 0) (.int .i64 0) (.int .i64 0) (.int .i64 0) (.slice none 0 0) (.bool false))
        have HFIN : Hid (AtOut w ⟨textAt toks 2, rows.map Prod.fst ++ [], ty, zeroT, decide (tx1 = wDef)⟩ (.returned (.tuple #[.agg #[.string ⟨tx2.toArray⟩, .slice ap rows.length cp, .int .i64 ty.kd, .int .i64 ty.ni, .int .i64 ty.nj, .int .i64 ty.nn, .slice aT lT cT, .int .i64 0, .int .i64 0, .int .i64 0, .int .i64 0, .slice none 0 0, .bool false], .bool true])) (set13 Wc w.heap.size (.string ⟨tx2.toArray⟩) (.slice ap rows.length cp) (.int .i64 ty.kd) (.int .i64 ty.ni) (.int .i64 ty.nj) (.int .i64 ty.nn) (.slice aT lT cT) (.int .i64 0) (.int .i64 0) (.int .i64 0) (.int .i64 0) (.slice none 0 0) (.bool false))) := Lib.hid (by
          have hk : Kp (bs + 1) Wc (set13 Wc w.heap.size (.string ⟨tx2.toArray⟩) (.slice ap rows.length cp) (.int .i64 ty.kd) (.int .i64 ty.ni) (.int .i64 ty.nj) (.int .i64 ty.nn) (.slice aT lT cT) (.int .i64 0) (.int .i64 0) (.int .i64 0) (.int .i64 0) (.slice none 0 0) (.bool false)) := Kp.grown (set13_grown _ _ _ _ _ _ _ _ _ _ _ _ _ _ _) (by omega)
          refine ⟨.slice ap rows.length cp, .slice aT lT cT, nilV, ?_, ?_, ?_, ?_, ?_⟩
          · rw [HTX2.out, HDD.out]; rfl
          · rw [List.append_nil]; exact (HPAR2.out.kp hk).rep
          · exact (HTY2.out.kp hk).rep
          · exact .nil _ _
          · exact HB5.out.low.trans (below_of_grown (set13_grown _ _ _ _ _ _ _ _ _ _ _ _ _ _ _) (Nat.le_refl _) HB5.out.low.size))
        unfold set13 at HAT HFIN
        go_wp2
        obtain ⟨x0, x1, x2, x3, x4, x5, x6, x7, x8, x9, x10, x11, x12, _⟩ := cells13 HAT.out
        have hfin := HFIN.out
        rw [HQ.out.2.2, ← HTX1.out] at hfin
        exact bodyPost_ret (v := .tuple #[.agg #[.string ⟨tx2.toArray⟩, .slice ap rows.length cp, .int .i64 ty.kd, .int .i64 ty.ni, .int .i64 ty.nj, .int .i64 ty.nn, .slice aT lT cT, .int .i64 0, .int .i64 0, .int .i64 0, .int .i64 0, .slice none 0 0, .bool false], .bool true]) (by simp [results, Tryd.results6, go_sem, x0, x1, x2, x3, x4, x5, x6, x7, x8, x9, x10, x11, x12]) rfl hfin
    · have HK1 := Lib.hid hk1
      have HONE := Lib.hid hone
      have HKEE := Lib.hid hke
      have HPM := Lib.hid hpm
      have hkl : k < toks.length := kindAt_lt (by omega)
      have hkl1 : k + 1 < toks.length := kindAt_lt (by omega)
      obtain ⟨bt', o', c', hlv0, hn9, hbtr, _, t0, _, _⟩ := HA.out.line.tok hkl k hkl
      injection hlv0 with y1 y2 y3
      injection y1 with y1
      injection y1 with y1 y4
      subst y1 y4 y3
      obtain ⟨bt', o', c', hlv0, _, _, _, _, q1, _⟩ := HA.out.line.tok hkl (k + 1) hkl1
      injection hlv0 with y1 y2 y3
      injection y1 with y1
      injection y1 with y1 y4
      subst y1 y4 y3
      rw [hk1] at t0
      have d1 : decide (toks.length ≤ k) = false := by simp; omega
      have d2 : decide ((toks.length : Int) ≤ (k : Int)) = false := by simp; omega
      have d3 : (k : Int) < (toks.length : Int) := by omega
      have d4 : decide (toks.length ≤ k + 1) = false := by simp; omega
      have d5 : decide ((toks.length : Int) ≤ (k : Int) + 1) = false := by simp; omega
      have d6 : (k : Int) + 1 < (toks.length : Int) := by omega
      have hlen := HLEN.out
      have y1 : IntKind.i64.wrap ((k : Int) + 1) = (k : Int) + 1 := by rw [IntKind.wrap_i64]; omega
      have y2 : (0 : Int) ≤ (k : Int) + 1 := by omega
      have y3 : ((k : Int) + 1).toNat = k + 1 := by omega
      clear hk1 hk3 hone hke hpm HST
      generalize textAt toks (k + 1) = nx at q1 HPM
      go_wp2_with fail
      go_quiet (fail)
      revert nq
      intro n1
      go_wp2_with fail
      go_quiet (fail)
      go_upto_region 11 with fail
      have hA1 := (HA.out.drewN n1).drewN nq
      have HM1 : Hid (k ≤ toks.length) := Lib.hid (by omega)
      generalize (wr.drewN n1).drewN nq = Wa at *
      have HA2 : Hid (PA ⟨text.toArray⟩ toks (.slice (some ⟨bt, o, none⟩) toks.length cl) w bs ⟨tx2.toArray⟩ d nm (.slice an nm.length cn) rows (.slice ap rows.length cp) (Wa.setCell ⟨w.heap.size + 2, 2, none⟩ (.int .i64 ((k : Int) + 2))) (k + 2)) := Lib.hid (hA1.step (k + 2))
      clear c0 c1 c2 t0 q1 d1 d2 d3 d4 d5 d6 y1 y2 y3 hbtr
      obtain ⟨c0, c1, c2⟩ := hA1.line.at
      have f2 := hA1.line.fz 2
      have hbl9 := hA1.line.lt
      clear hA1
      go_wp2_with fail
      clear c0 c1 c2 f2 hbl9
      generalize Wa.setCell ⟨w.heap.size + 2, 2, none⟩ (.int .i64 ((k : Int) + 2)) = Wb at *
      obtain ⟨hpc, ⟨q, hrd⟩, hp1, hp2, hae, hel⟩ := one_parts HONE.out
      have HRD : Hid (readM ((ByteArray.mk text.toArray).extract (posAt toks (k + 2)) (endAt toks e)).data.toList nm i j = .ok t q) := Lib.hid (by rw [piece_text]; exact hrd)
      have HAE := Lib.hid (And.intro hae hel)
      refine (piece_any HA2.out.line hpc HLEN.out hp1 (by simpa [ByteArray.size] using hp2) HSZ.out HPOS.out HTXL.out).mono ?_
      rintro en w6 ⟨rfl, hl6, hg6⟩
      have HA3 := Lib.hid (HA2.out.move hl6 hg6)
      clear hl6 hg6 hpc hrd hp1 hp2 hae hel
      go_wp2_with fail
      have HXS : Hid (((ByteArray.mk text.toArray).extract (posAt toks (k + 2)) (endAt toks e)).size ≤ 1099511627776) := Lib.hid (by
        have h1 := HSZ.out
        have h2 : ((ByteArray.mk text.toArray).extract (posAt toks (k + 2)) (endAt toks e)).size ≤ (ByteArray.mk text.toArray).size := by rw [ByteArray.size_extract]; omega
        omega)
      have hnm41 : nm.length ≤ 1099511627776 := by have h1 := HQ.out.1; have h2 := HQ.out.2.1; have h3 := HM1.out; have h4 := HLEN.out; omega
      refine (read_anyS _ i j w6 (HT.out.below HA3.out.low) HXS.out (Has.of_owns HA3.out.names) hnm41 (by have := HIJ.out; omega)).mono ?_
      intro en w7 hro
      rw [HRD.out] at hro
      obtain ⟨a5, l5, c5, rfl, hrep, hin4, hb7⟩ := hro
      have HREP := Lib.hid (And.intro hrep hin4)
      have hA4 := HA3.out.below hb7
      have HA5 := Lib.hid (hA4.below (below_alloc w7 (.cells #[.int .i64 t.kd, .int .i64 t.ni, .int .i64 t.nj, .int .i64 t.nn, .slice a5 l5 c5] 24)))
      have HB7 := Lib.hid hb7.size
      have HREP5 : Hid (RepTS (w7.alloc (.cells #[.int .i64 t.kd, .int .i64 t.ni, .int .i64 t.nj, .int .i64 t.nn, .slice a5 l5 c5] 24)) (fun x => w6.heap.size ≤ x) t.kids (.slice a5 l5 c5) ∧ t.in4) := Lib.hid ⟨HREP.out.1.kept (by simp) fun x hx hxl => ⟨Lib.alloc_old _ _ _ hxl, hx⟩, HREP.out.2⟩
      have HBX5 := Lib.hid (new_heap w7 #[.int .i64 t.kd, .int .i64 t.ni, .int .i64 t.nj, .int .i64 t.nn, .slice a5 l5 c5] 24)
      clear hrep hin4 hb7 hA4 hnm41
      unfold termV
      go_upto_region 13 with fail
      have HS5 : Hid ((w7.alloc (.cells #[.int .i64 t.kd, .int .i64 t.ni, .int .i64 t.nj, .int .i64 t.nn, .slice a5 l5 c5] 24)).heap.size = w7.heap.size + 1) := Lib.hid (by simp)
      generalize w7.alloc (.cells #[.int .i64 t.kd, .int .i64 t.ni, .int .i64 t.nj, .int .i64 t.nn, .slice a5 l5 c5] 24) = W8 at *
      obtain ⟨x0, x1, x2, x3, x4⟩ := box_cells5 HBX5.out
      have hsy := HA5.out.sym
      have sp : W8.cell? ⟨bs, 1, none⟩ = some (.slice ap rows.length cp) := by simp [World.cell?, hsy, symCells]
      have sf : W8.frozen? ⟨bs, 1, none⟩ = false := by simp [World.frozen?, hsy]
      have hr13 : rows.length ≤ 1099511627776 := by have h1 := HQ.out.1; have h3 := HM1.out; have h4 := HLEN.out; omega
      clear hsy
      obtain ⟨it, hif, hi0, hi1, hi2⟩ := info_parts Tryd.infoTerm
      go_wp2_with (at_builtin; go_must (refine wpList_append_lies _ rfl (.tmp 129) (.tmp 131) 22 rfl (bs + 1) 24 it _ 5 56 Tryd.underlying22 hif hi0 hi1 hi2 rfl (by decide) (.slice ap rows.length cp) rows.length (kidCells rows) rfl ?own ⟨W8.heap.size, 0, none⟩ 1 1 [.int .i64 t.kd, .int .i64 t.ni, .int .i64 t.nj, .int .i64 t.nn, .slice a5 l5 c5] rfl rfl ?news ?one (by decide) ?c3 ?c4 ?c5 (W8.heap.size + 1) (by simp) ?_))
      case own => exact (HA5.out.below (below_alloc _ _)).pars
      case news => exact World.news_of_block (cs := #[.int .i64 t.kd, .int .i64 t.ni, .int .i64 t.nj, .int .i64 t.nn, .slice a5 l5 c5]) (t := 24) (fr := (0, 0)) (heap_alloc_new W8 _)
      case one => simp [Value.oneCell']
      case c3 => unfold maxLen; omega
      case c4 => omega
      case c5 => have := HA5.out.lt; simp; omega
      intro g cap w10 hown10 hgrow10 hat10 hlt10
      have hA5b := HA5.out.below (below_alloc W8 (.cells #[.int .i64 t.kd, .int .i64 t.ni, .int .i64 t.nj, .int .i64 t.nn, .slice a5 l5 c5] 24))
      have HA6 := Lib.hid (hA5b.pushT (B := w6.heap.size) (fun x hx => (HA3.out.pars.lt x hx).2) (fun x hx => (HA3.out.names.lt x hx).2) HA3.out.lt (by have h1 := HB7.out; have h2 := HS5.out; simp; omega)
        ⟨HREP5.out.1.kept (by simp) fun x hx hxl => ⟨Lib.alloc_old _ _ _ hxl, hx⟩, HREP5.out.2⟩ hgrow10 (by simpa using hat10) hown10)
      have hsy := hA5b.sym
      have hlt8 := hA5b.lt
      have hsy10 := (hgrow10.block bs hlt8 (fun he => by have := (hA5b.pars.lt bs he.symm).1; omega)).trans hsy
      have hs10 : bs < w10.heap.size := (Array.getElem?_eq_some_iff.1 hsy10).1
      have sp10 : w10.cell? ⟨bs, 1, none⟩ = some (.slice ap rows.length cp) := by simp [World.cell?, hsy10, symCells]
      have sf10 : w10.frozen? ⟨bs, 1, none⟩ = false := by simp [World.frozen?, hsy10]
      clear hA5b hsy hlt8 hsy10 hown10 hgrow10 hat10 hlt10 sp sf x0 x1 x2 x3 x4 hif hi0 hi1 hi2
      go_upto_region 14 with fail
      generalize w10.setCell ⟨bs, 1, none⟩ (.slice (some ⟨g, 0, none⟩) (rows.length + 1) cap) = W11 at *
      clear hs10 sp10 sf10
      obtain ⟨is, hif, hi0, hi1, hi2⟩ := info_parts Tryd.infoStr
      go_wp2_with (at_builtin; go_must (refine wpList_append_lies _ rfl (.tmp 134) (.tmp 136) 42 rfl (bs + 1) 9 is _ 1 16 Tryd.underlying42 hif hi0 hi1 hi2 rfl (by decide) (.slice an nm.length cn) nm.length (textRow nm) rfl ?own2 ⟨W11.heap.size, 0, none⟩ 1 1 [.string ⟨nx.toArray⟩] rfl rfl ?news2 ?one2 (by decide) ?d3 ?d4 ?d5 (W11.heap.size + 1) (by simp) ?_))
      case own2 => exact (HA6.out.below (below_alloc _ _)).names
      case news2 => exact World.news_of_block (cs := #[.string ⟨nx.toArray⟩]) (t := 9) (fr := (0, 0)) (heap_alloc_new W11 _)
      case one2 => simp [Value.oneCell']
      case d3 => have h1 := HQ.out.2.1; unfold maxLen; omega
      case d4 => have h1 := HQ.out.2.1; omega
      case d5 => have := HA6.out.lt; simp; omega
      intro g2 cap2 w12 hown12 hgrow12 hat12 hlt12
      have hA7 := (HA6.out.below (below_alloc W11 (.cells #[.string ⟨nx.toArray⟩] 9))).pushN hgrow12 (by simpa using hat12) hown12
      have HA7 := Lib.hid hA7
      have HA8 := Lib.hid (hA7.step (e + 1))
      have HM8 := Lib.hid (measL_is HA8.out.line toks.length)
      obtain ⟨c0, c1, c2⟩ := hA7.line.at
      have f2 := hA7.line.fz 2
      have hbl9 := hA7.line.lt
      have hel : e ≤ toks.length := HAE.out.2
      clear hA7 hown12 hgrow12 hat12 hlt12 hif hi0 hi1 hi2
      go_wp2
      go_roundw
      case rel => exact ⟨nm ++ [nx], rows ++ [(t, .slice a5 l5 c5)], .slice (some ⟨g, 0, none⟩) (rows.length + 1) cap, e + 1, f', ts, HA8.out, by have h1 := HQ.out.1; have h2 := HAE.out.1; simp; omega, by simp [HQ.out.2.1], HPM.out, by have := HQ.out.2.2; rw [← this]; simp⟩
      case measure => rw [HM.out]; have h1 := HM8.out; simp only [Int.natCast_add, Int.natCast_one] at h1; rw [h1]; have h2 := HAE.out.1; have h3 := HM1.out; omega
end Go.Proofs.YtfklmcmoackepaaDoor
