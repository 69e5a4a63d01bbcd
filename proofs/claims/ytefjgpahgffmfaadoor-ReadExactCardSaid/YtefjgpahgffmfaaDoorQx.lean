/- Walk of the page's Read. -/
import Derived.Test.YtefjgpahgffmfaaDoorQt
namespace Go.Proofs.YtefjgpahgffmfaaDoor
open Go.RowKit

theorem spans_ne (l : List UInt8) : ∀ (pos : Nat) (toks : List Tok), Spans l pos toks → ∀ (k : Nat) (h : k < toks.length), toks[k].text ≠ []
  | _, _ :: _, hs, 0, _ => fun he => by have := hs.2.2.2.2.1; rw [List.getElem_cons_zero] at he; rw [he] at this; simp at this
  | _, t :: ts, hs, k + 1, h => spans_ne l _ ts hs.2.2.2.2.2 k (by simpa using h)
theorem tok_ne {l : List UInt8} {toks : List Tok} {f : Option Nat} (h : lexL l = (toks, f)) (k : Nat) (hk : kindAt toks k = 3) : textAt toks k ≠ [] := by
  have hlt := kindAt_lt (l := toks) (k := k) (by omega)
  rw [textAt_eq hlt]
  cases f with
  | none => exact spans_ne l 0 toks (spans_lexL _ _ h) k hlt
  | some p => exact spans_ne _ 0 toks (spans_lexL _ _ (lexL_cut h)) k hlt
theorem tok_short {s : ByteArray} {toks : List Tok} {f : Option Nat} (h : lexL s.data.toList = (toks, f)) (k : Nat) : (textAt toks k).length ≤ s.size := by
  cases f with
  | none => exact textAt_le s toks h k
  | some p => exact textAt_le' s toks p h k

set_option maxHeartbeats 1000000 in
set_option maxRecDepth 100000 in
theorem qplace_any (s : ByteArray) (w : World) (toks : List Tok) (f : Option Nat) (hl : lexL s.data.toList = (toks, f)) (lv : Value) (hh : Has w 3 lv toks.length (toksCells toks)) (k : Nat) :
    Calls Tryd.prog 49 #[.string s, lv, .int .i64 (faultI f), .int .i64 k] w fun e w' => e = .returned (.int .i64 (placeM s.data.toList k : Nat)) ∧ w' = w := by
  have HP : Hid (placeM s.data.toList k = match toks[k]? with | some t => t.pos | none => f.getD s.size) := Lib.hid (by
    unfold placeM
    rw [hl]
    dsimp only
    cases toks[k]? <;> simp)
  clear hl
  rcases hh.2 with ⟨rfl, h0⟩ | ⟨bt, o, c, rfl, hn, hb, hcells⟩
  · have hnone : toks[k]? = none := List.getElem?_eq_none (by omega)
    have HV : Hid (placeM s.data.toList k = f.getD s.size) := Lib.hid (by rw [HP.out, hnone])
    have hlt : ¬ (k : Int) < ((0 : Nat) : Int) := by omega
    clear hh h0 hnone HP
    cases f with
    | none =>
      unfold faultI
      go_enter Tryd.func49, Tryd.ntmps49
      go_wp2
      go_ret
      exact ⟨by rw [HV.out]; rfl, rfl⟩
    | some p =>
      unfold faultI
      go_enter Tryd.func49, Tryd.ntmps49
      go_wp2
      go_ret
      exact ⟨by rw [HV.out]; rfl, rfl⟩
  · unfold maxLen at hn
    by_cases hlt : k < toks.length
    · have hat := toksCells_at toks k hlt
      have t2 : w.cell? ⟨bt, o + k * 3 + 2, none⟩ = _ := (hcells (k * 3 + 2) (by omega)).trans hat.2.2
      have HV : Hid (placeM s.data.toList k = toks[k].pos) := Lib.hid (by rw [HP.out, List.getElem?_eq_getElem hlt])
      clear hh hcells hat HP
      generalize toks[k].pos = pp at t2 HV
      go_enter Tryd.func49, Tryd.ntmps49
      go_wp2
      go_ret
      exact ⟨by rw [HV.out]; rfl, rfl⟩
    · have HV : Hid (placeM s.data.toList k = f.getD s.size) := Lib.hid (by rw [HP.out, List.getElem?_eq_none (by omega)])
      clear hh hcells HP
      cases f with
      | none =>
        unfold faultI
        go_enter Tryd.func49, Tryd.ntmps49
        go_wp2
        go_ret
        exact ⟨by rw [HV.out]; rfl, rfl⟩
      | some p =>
        unfold faultI
        go_enter Tryd.func49, Tryd.ntmps49
        go_wp2
        go_ret
        exact ⟨by rw [HV.out]; rfl, rfl⟩

theorem zero_endQ {w W : World} (hb : Below w.heap.size w W) (hres : W.heap[w.heap.size]? = some (.cells zero5 24 (0, 0))) :
    ∃ W', ((((W.setCell ⟨w.heap.size, 0, none⟩ (.int .i64 0)).setCell ⟨w.heap.size, 1, none⟩ (.int .i64 0)).setCell ⟨w.heap.size, 2, none⟩ (.int .i64 0)).setCell ⟨w.heap.size, 3, none⟩ (.int .i64 0)).setCell ⟨w.heap.size, 4, none⟩ (.slice none 0 0) = W' ∧
      Below w.heap.size w W' ∧ W'.heap[w.heap.size]? = some (.cells zero5 24 (0, 0)) := by
  have h2 := set5_at hres (.int .i64 0) (.int .i64 0) (.int .i64 0) (.int .i64 0) (.slice none 0 0)
  unfold set5 at h2
  exact ⟨_, rfl, ((((hb.setCell (p := ⟨w.heap.size, 0, none⟩) (Nat.le_refl _) _).setCell (p := ⟨w.heap.size, 1, none⟩) (Nat.le_refl _) _).setCell (p := ⟨w.heap.size, 2, none⟩) (Nat.le_refl _) _).setCell (p := ⟨w.heap.size, 3, none⟩) (Nat.le_refl _) _).setCell (p := ⟨w.heap.size, 4, none⟩) (Nat.le_refl _) _, h2⟩

section
variable (s : ByteArray) {nv : Value} {nm : List (List UInt8)} (i j : Nat) (w : World)

theorem textRow_oneCell (nm : List (List UInt8)) : ∀ u ∈ textRow nm, u.oneCell' = true := by
  intro u hu; simp only [textRow, List.mem_map] at hu; obtain ⟨x, _, rfl⟩ := hu; rfl

set_option maxHeartbeats 8000000 in
set_option maxRecDepth 100000 in
theorem qread_any (hs : s.size ≤ 1099511627776) (hN : Has w 1 nv nm.length (textRow nm)) (hnl : nm.length ≤ 1099511627776) (hij : i ≤ 1000 ∧ j ≤ 1000) :
    Calls Tryd.prog 26 #[.string s, nv, .int .i64 i, .int .i64 j] w (ReadOut w s.data.toList (readM s.data.toList nm i j)) := by
  obtain ⟨toks, f, hl⟩ : ∃ toks f, lexL s.data.toList = (toks, f) := ⟨_, _, rfl⟩
  have g0 : decide ((i : Int) < 0) = false := by simp
  have g0' : decide ((j : Int) < 0) = false := by simp
  have g1 : decide ((1000 : Int) < (i : Int)) = false := by simp; omega
  have g2 : decide ((1000 : Int) < (j : Int)) = false := by simp; omega
  have hlen := lexL_length s.data.toList
  rw [hl] at hlen
  have hlen2 : toks.length ≤ 1099511627776 := by
    have e : s.data.toList.length = s.size := by simp
    dsimp only at hlen; omega
  have HTX : Hid (∀ j, (textAt toks j).length ≤ 1099511627776) := Lib.hid (fun j => Nat.le_trans (tok_short hl j) hs)
  have HNE : Hid (∀ k, kindAt toks k = 3 → textAt toks k ≠ []) := Lib.hid (fun k hk => tok_ne hl k hk)
  have HS := Lib.hid hs
  have HL := Lib.hid hl
  have HN := Lib.hid hN
  have HB0 := Lib.hid (below_alloc w zeroB)
  obtain ⟨i1, hi, hi0, hi1, hi2⟩ := info_parts Tryd.infoStr
  have HINF := Lib.hid (And.intro hi (And.intro hi0 (And.intro hi1 hi2)))
  obtain ⟨anv, cnv, rfl⟩ : ∃ a c, nv = .slice a nm.length c := by
    rcases hN.2 with ⟨rfl, h0⟩ | ⟨bt, o, c, rfl, _⟩
    · exact ⟨none, 0, by rw [h0]⟩
    · exact ⟨_, _, rfl⟩
  clear hl hN hlen hs hi hi0 hi1 hi2
  unfold zeroB at HB0
  go_enter Tryd.func26, Tryd.ntmps26
  go_wp2_with fail
  refine (rlex_any s _ HS.out).mono ?_
  rintro e w1 ⟨v, toks', f', hl', rfl, hown, hb⟩
  obtain ⟨rfl, rfl⟩ : toks = toks' ∧ f = f' := by
    have := HL.out
    rw [hl'] at this
    cases this
    exact ⟨rfl, rfl⟩
  clear hl'
  obtain ⟨al, cl, rfl⟩ := own_form hown
  have HOWN := Lib.hid hown
  have HB1 := Lib.hid (HB0.out.trans (hb.mono (by simp)))
  have hsz1 : w.heap.size + 1 ≤ w1.heap.size := by have := hb.size; simpa using this
  have hres1 : w1.heap[w.heap.size]? = some (.cells zero5 24 (0, 0)) := by
    rw [hb.block w.heap.size (by simp)]
    exact zeroB_at w
  have HRES1 := Lib.hid hres1
  clear hown hb hres1
  obtain ⟨hi, hi0, hi1, hi2⟩ := HINF.out
  go_wp2_with (at_builtin; go_must (refine wpList_append_has rfl (.tmp 38) (.tmp 39) 32 rfl w1.heap.size 9 i1 _ 1 16 Tryd.underlying32 hi hi0 hi1 hi2 rfl (by decide) (.slice (some ⟨w1.heap.size, 0, none⟩) 0 0) 0 [] rfl ?own (.slice anv nm.length cnv) nm.length (textRow nm) rfl ?has ?one ?c3 ?c4 ?c5 ?_))
  case own => exact World.ownsRow_lit (base := w1.heap.size) w1 #[] 0 (Nat.le_refl _) (Nat.zero_le _) rfl
  case has => exact HN.out.below (HB1.out.trans ((below_alloc _ _).mono HB1.out.size))
  case one => exact textRow_oneCell nm
  case c3 => unfold maxLen; omega
  case c4 => omega
  case c5 => simp
  intro va w2 hown2 hgrow2
  have HO2 : Hid (w2.ownsRow w1.heap.size 9 1 va nm.length (textRow nm)) := Lib.hid (by simpa using hown2)
  have HB2 : Hid (Below w1.heap.size w1 w2) := Lib.hid ((below_alloc w1 (.cells #[] 9)).grown hgrow2 (by simp) (fun g hg => by simp only [Value.ownBlock, Option.some.injEq] at hg; omega))
  obtain ⟨an3, cn3, hva⟩ := own_form HO2.out
  subst hva
  clear hown2 hgrow2 hi hi0 hi1 hi2
  have HRQ : Hid (Rq ⟨toks, i, j⟩ (.slice al toks.length cl) w2.heap.size (w2.alloc (.cells #[.slice al toks.length cl, .int .i64 0, .int .i64 (-1), .int .i64 i, .int .i64 j, .slice an3 nm.length cn3] 70)) (.slice an3 nm.length cn3) nm (.ok 0)) := Lib.hid (by
    have hbw : Below w1.heap.size w1 (w2.alloc (.cells #[.slice al toks.length cl, .int .i64 0, .int .i64 (-1), .int .i64 i, .int .i64 j, .slice an3 nm.length cn3] 70)) := HB2.out.trans ((below_alloc _ _).mono HB2.out.size)
    refine { cells := ⟨0, -1, new_heap _ _ _, rfl, Nat.zero_le _, rfl⟩, hasN := (Has.of_owns HO2.out).below (below_alloc _ _), farN := fun he => by have := (HO2.out.lt _ he).2; omega, cap := capOK_own HO2.out, has := (Has.of_owns HOWN.out).below hbw, far := fun he => by have := (HOWN.out.lt _ he).2; have := HB2.out.size; omega, short := HTX.out, len := hlen2, lev := hij, names := by omega })
  have HB3 : Hid (Below w.heap.size w (w2.alloc (.cells #[.slice al toks.length cl, .int .i64 0, .int .i64 (-1), .int .i64 i, .int .i64 j, .slice an3 nm.length cn3] 70))) := Lib.hid (HB1.out.trans ((HB2.out.trans ((below_alloc _ _).mono HB2.out.size)).mono HB1.out.size))
  have hsz2 := HB2.out.size
  have HRES3 : Hid ((w2.alloc (.cells #[.slice al toks.length cl, .int .i64 0, .int .i64 (-1), .int .i64 i, .int .i64 j, .slice an3 nm.length cn3] 70)).heap[w.heap.size]? = some (.cells zero5 24 (0, 0))) := Lib.hid (by
    rw [Lib.alloc_old _ _ _ (by omega), HB2.out.block _ (by omega)]
    exact HRES1.out)
  go_wp2_with fail
  refine (qterm_any (E := ⟨toks, i, j⟩) HNE.out (toks.length + 1) (.slice an3 nm.length cn3) nm (.ok 0) 0 _ HRQ.out (fun k hk => by cases hk; dsimp only; omega) (by decide)).mono ?_
  rintro e w4 ⟨t, a6, l6, c6, nv4, rfl, hr4, hg4, hnv4, hv4⟩
  generalize hW3 : (w2.alloc (.cells #[.slice al toks.length cl, .int .i64 0, .int .i64 (-1), .int .i64 i, .int .i64 j, .slice an3 nm.length cn3] 70)) = W3 at *
  have hsz3 : W3.heap.size = w2.heap.size + 1 := by rw [← hW3]; simp
  clear hW3
  simp only [Md.go] at hr4 hv4
  have HRM : Hid (readM s.data.toList nm i j = (termM ⟨toks, i, j⟩ (toks.length + 1) nm 0 0).bind fun t k => if k < toks.length ∨ f ≠ none then .bad k else .ok t k) := Lib.hid (by
    unfold readM
    rw [HL.out])
  generalize termM ⟨toks, i, j⟩ (toks.length + 1) nm 0 0 = r at *
  have HB4 : Hid (Below w.heap.size w w4) := Lib.hid (HB3.out.trans (below_of_grown hg4 (by omega) HB3.out.size))
  have hres4 : w4.heap[w.heap.size]? = some (.cells zero5 24 (0, 0)) := by
    rw [hg4.block _ (by omega) (by simp; omega)]; exact HRES3.out
  have HRES4 := Lib.hid hres4
  have HREP : Hid (∀ t' k', r = .ok t' k' → t' = t ∧ RepTS w4 (fun x => w.heap.size + 1 ≤ x) t.kids (.slice a6 l6 c6) ∧ t.in4) := Lib.hid (fun t' k' h => ⟨(hv4 t' k' h).1, (hv4 t' k' h).2.1.kept (Nat.le_refl _) fun x hx _ => ⟨rfl, by omega⟩, (hv4 t' k' h).2.2⟩)
  have hsz4 := hg4.size
  clear hg4 hnv4 hv4 hres4
  unfold termV
  have HR5 := Lib.hid (hr4.kept (below_alloc w4 (.cells #[.int .i64 t.kd, .int .i64 t.ni, .int .i64 t.nj, .int .i64 t.nn, .slice a6 l6 c6] 24)))
  have HB5 := Lib.hid (HB4.out.trans ((below_alloc w4 (.cells #[.int .i64 t.kd, .int .i64 t.ni, .int .i64 t.nj, .int .i64 t.nn, .slice a6 l6 c6] 24)).mono HB4.out.size))
  have HS5 : Hid ((w4.alloc (.cells #[.int .i64 t.kd, .int .i64 t.ni, .int .i64 t.nj, .int .i64 t.nn, .slice a6 l6 c6] 24)).heap[w.heap.size]? = some (.cells zero5 24 (0, 0))) := Lib.hid ((Lib.alloc_old _ _ _ (by omega)).trans HRES4.out)
  have HT5 : Hid ((w4.alloc (.cells #[.int .i64 t.kd, .int .i64 t.ni, .int .i64 t.nj, .int .i64 t.nn, .slice a6 l6 c6] 24)).heap[w4.heap.size]? = some (.cells #[.int .i64 t.kd, .int .i64 t.ni, .int .i64 t.nj, .int .i64 t.nn, .slice a6 l6 c6] 24 (0, 0))) := Lib.hid (new_heap _ _ _)
  have HK5 : Hid (∀ t' k', r = .ok t' k' → t' = t ∧ RepTS (w4.alloc (.cells #[.int .i64 t.kd, .int .i64 t.ni, .int .i64 t.nj, .int .i64 t.nn, .slice a6 l6 c6] 24)) (fun x => w.heap.size + 1 ≤ x) t.kids (.slice a6 l6 c6) ∧ t.in4) := Lib.hid (fun t' k' h => ⟨(HREP.out t' k' h).1, (HREP.out t' k' h).2.1.kept (by simp) fun x hx hxl => ⟨Lib.alloc_old _ _ _ hxl, hx⟩, (HREP.out t' k' h).2.2⟩)
  clear hr4
  have hnr : ¬ w4.heap.size = w.heap.size := by omega
  have hnr' : ¬ w.heap.size = w4.heap.size := by omega
  cases r with
  | bad q =>
    have HRES : Hid (readM s.data.toList nm i j = .bad q) := Lib.hid (by rw [HRM.out]; rfl)
    have hz := HR5.out
    simp only [RR.md] at hz
    have HRZ := Lib.hid hz
    obtain ⟨kk, h0, h1, _, c0, c1, c2, c5⟩ := hz.at'
    clear hz h0 h1
    have hq1 : decide ((q : Int) < 0) = false := by simp
    have hq2 : (0 : Int) ≤ (q : Int) := by omega
    have HZ := Lib.hid (zero_endQ HB5.out HS5.out)
    obtain ⟨r0, r1, r2, r3, r4, g0, g1, g2, g3, g4⟩ := cells5 HS5.out
    go_wp2_with fail
    refine (qplace_any s _ toks f HL.out _ HRZ.out.has q).mono ?_
    rintro e w6 ⟨rfl, rfl⟩
    go_wp2
    obtain ⟨W', hW', hbW, hrW⟩ := HZ.out
    rw [hW']
    obtain ⟨x0, x1, x2, x3, x4, _⟩ := cells5 hrW
    exact bodyPost_ret (v := .tuple #[termV 0 0 0 0 (.slice none 0 0), .int .i64 2, .int .i64 (placeM s.data.toList q : Nat)]) (by simp [results, Tryd.results26, go_sem, x0, x1, x2, x3, x4, termV]) rfl (by rw [HRES.out]; exact ⟨rfl, hbW⟩)
  | ok t' k' =>
    have hz := HR5.out
    simp only [RR.md] at hz
    have HRZ := Lib.hid hz
    obtain ⟨_, c0, c1, c2, c3, c4, c5⟩ := hz.at
    have hkle := hz.le
    have hbl := hz.lt
    have f2 := hz.fz 2
    clear hz
    dsimp only at hkle
    have hne1 : ¬ w2.heap.size = w.heap.size := by omega
    have hne2 : ¬ w.heap.size = w2.heap.size := by omega
    have hways : decide ((k' : Int) < (toks.length : Int)) = true ∧ decide (k' < toks.length) = true ∧ k' < toks.length ∨ decide ((k' : Int) < (toks.length : Int)) = false ∧ decide (k' < toks.length) = false ∧ k' = toks.length := by
      rcases Nat.lt_or_ge k' toks.length with h | h
      · exact .inl ⟨by simp; omega, by simp; omega, h⟩
      · exact .inr ⟨by simp; omega, by simp; omega, by omega⟩
    have hBAD : (k' < toks.length ∨ f ≠ none) → readM s.data.toList nm i j = .bad k' := fun h => by rw [HRM.out, RR.bind_ok, if_pos h]
    have HBAD := Lib.hid hBAD
    have HX : Hid (Rq ⟨toks, i, j⟩ (.slice al toks.length cl) w2.heap.size ((w4.alloc (.cells #[.int .i64 t.kd, .int .i64 t.ni, .int .i64 t.nj, .int .i64 t.nn, .slice a6 l6 c6] 24)).setCell ⟨w2.heap.size, 2, none⟩ (.int .i64 k')) nv4 nm (.bad k')) := Lib.hid (HRZ.out.failed k')
    have HBX : Hid (Below w.heap.size w ((w4.alloc (.cells #[.int .i64 t.kd, .int .i64 t.ni, .int .i64 t.nj, .int .i64 t.nn, .slice a6 l6 c6] 24)).setCell ⟨w2.heap.size, 2, none⟩ (.int .i64 k'))) := Lib.hid (HB5.out.setCell (p := ⟨w2.heap.size, 2, none⟩) (by show w.heap.size ≤ w2.heap.size; omega) _)
    have HSX : Hid (((w4.alloc (.cells #[.int .i64 t.kd, .int .i64 t.ni, .int .i64 t.nj, .int .i64 t.nn, .slice a6 l6 c6] 24)).setCell ⟨w2.heap.size, 2, none⟩ (.int .i64 k')).heap[w.heap.size]? = some (.cells zero5 24 (0, 0))) := Lib.hid ((Below.heap_setCell _ _ _ _ hne2).trans HS5.out)
    clear hBAD
    rcases hways with ⟨d1, d2, hk⟩ | ⟨d1, d2, hk⟩
    · have HRES : Hid (readM s.data.toList nm i j = .bad k') := Lib.hid (HBAD.out (.inl hk))
      clear hk
      obtain ⟨r0, r1, r2, r3, r4, g0, g1, g2, g3, g4⟩ := cells5 HS5.out
      have HZ := Lib.hid (zero_endQ HBX.out HSX.out)
      have hk2 : (0 : Int) ≤ (k' : Int) := by omega
      go_wp2_with fail
      refine (qplace_any s _ toks _ HL.out _ HX.out.has k').mono ?_
      rintro e w6 ⟨rfl, rfl⟩
      go_wp2
      obtain ⟨W', hW', hbW, hrW⟩ := HZ.out
      rw [hW']
      obtain ⟨x0, x1, x2, x3, x4, _⟩ := cells5 hrW
      exact bodyPost_ret (v := .tuple #[termV 0 0 0 0 (.slice none 0 0), .int .i64 2, .int .i64 (placeM s.data.toList k' : Nat)]) (by simp [results, Tryd.results26, go_sem, x0, x1, x2, x3, x4, termV]) rfl (by rw [HRES.out]; exact ⟨rfl, hbW⟩)
    · have HK := Lib.hid hk
      clear hk
      cases f with
      | some p =>
        have HRES : Hid (readM s.data.toList nm i j = .bad k') := Lib.hid (HBAD.out (.inr (by simp)))
        have hf : (0 : Int) ≤ (p : Int) := by omega
        unfold faultI
        obtain ⟨r0, r1, r2, r3, r4, g0, g1, g2, g3, g4⟩ := cells5 HS5.out
        have HZ := Lib.hid (zero_endQ HBX.out HSX.out)
        have hk2 : (0 : Int) ≤ (k' : Int) := by omega
        go_wp2_with fail
        refine (qplace_any s _ toks _ HL.out _ HX.out.has k').mono ?_
        rintro e w6 ⟨rfl, rfl⟩
        go_wp2
        obtain ⟨W', hW', hbW, hrW⟩ := HZ.out
        rw [hW']
        obtain ⟨x0, x1, x2, x3, x4, _⟩ := cells5 hrW
        exact bodyPost_ret (v := .tuple #[termV 0 0 0 0 (.slice none 0 0), .int .i64 2, .int .i64 (placeM s.data.toList k' : Nat)]) (by simp [results, Tryd.results26, go_sem, x0, x1, x2, x3, x4, termV]) rfl (by rw [HRES.out]; exact ⟨rfl, hbW⟩)
      | none =>
        have HRES : Hid (readM s.data.toList nm i j = .ok t' k') := Lib.hid (by rw [HRM.out, RR.bind_ok, if_neg (by have := HK.out; simp; omega)])
        obtain ⟨htt, HKP, hin⟩ := HK5.out t' k' rfl
        subst htt
        have HKP := Lib.hid HKP
        have HIN := Lib.hid hin
        clear hin
        unfold faultI
        obtain ⟨r0, r1, r2, r3, r4, g0, g1, g2, g3, g4⟩ := cells5 HS5.out
        obtain ⟨m0, m1, m2, m3, m4, _⟩ := cells5 HT5.out
        go_wp2
        have hset := set5_at HS5.out (.int .i64 t'.kd) (.int .i64 t'.ni) (.int .i64 t'.nj) (.int .i64 t'.nn) (.slice a6 l6 c6)
        have hrep2 : RepT (set5 (w4.alloc (.cells #[.int .i64 t'.kd, .int .i64 t'.ni, .int .i64 t'.nj, .int .i64 t'.nn, .slice a6 l6 c6] 24)) w.heap.size (.int .i64 t'.kd) (.int .i64 t'.ni) (.int .i64 t'.nj) (.int .i64 t'.nn) (.slice a6 l6 c6)) t'.kids (.slice a6 l6 c6) := (HKP.out.kept (S' := fun _ => True) (by rw [set5_size]; exact Nat.le_refl _) fun x hx _ => ⟨set5_other _ _ (.int .i64 t'.kd) (.int .i64 t'.ni) (.int .i64 t'.nj) (.int .i64 t'.nn) (.slice a6 l6 c6) (by omega), trivial⟩).rep
        have hbW := ((((HB5.out.setCell (p := ⟨w.heap.size, 0, none⟩) (Nat.le_refl _) (.int .i64 t'.kd)).setCell (p := ⟨w.heap.size, 1, none⟩) (Nat.le_refl _) (.int .i64 t'.ni)).setCell (p := ⟨w.heap.size, 2, none⟩) (Nat.le_refl _) (.int .i64 t'.nj)).setCell (p := ⟨w.heap.size, 3, none⟩) (Nat.le_refl _) (.int .i64 t'.nn)).setCell (p := ⟨w.heap.size, 4, none⟩) (Nat.le_refl _) (.slice a6 l6 c6)
        unfold set5 at hset hrep2
        obtain ⟨x0, x1, x2, x3, x4, _⟩ := cells5 hset
        exact bodyPost_ret (v := .tuple #[termV t'.kd t'.ni t'.nj t'.nn (.slice a6 l6 c6), .int .i64 0, .int .i64 0]) (by simp [results, Tryd.results26, go_sem, x0, x1, x2, x3, x4, termV]) rfl (by rw [HRES.out]; exact ⟨a6, l6, c6, rfl, hrep2, HIN.out, hbW⟩)
end
end Go.Proofs.YtefjgpahgffmfaaDoor
