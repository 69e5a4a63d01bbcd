/- Walk of transhiplaw13.ParseBetween. -/
import Derived.Test.YtfpiogaakblpeaaDoorLaw13
import Derived.Test.YtfpiogaakblpeaaDoorLaw14c
import Derived.Test.YtfpiogaakblpeaaDoorFree
namespace Go.Proofs.YtfpiogaakblpeaaDoor
open Go.RowKit

/-- a slice of ints that can be read -/
def IntsAt (w : World) (ga : Option Addr) (gn : Nat) : Prop :=
  gn = 0 ∨ ∃ b o, ga = some ⟨b, o, none⟩ ∧ b < w.heap.size ∧ ∀ j, j < gn → ∃ z : Int, w.cell? ⟨b, o + j, none⟩ = some (.int .i64 z)

theorem wrap_nat (z : Int) : ∃ m : Nat, IntKind.u64.wrap z = (m : Int) := by
  refine ⟨(IntKind.u64.wrap z).toNat, ?_⟩
  have : 0 ≤ IntKind.u64.wrap z := by
    simp only [IntKind.wrap, IntKind.bits, IntKind.signed]
    simp
    omega
  omega

def gapsBlock : Array Value := #[.string { data := #[32] }, .string { data := #[10] }, .string { data := #[9, 32] }, .string { data := #[59, 32, 97, 32, 40, 32, 98, 10] }, .string { data := #[32, 59, 10, 59, 41, 10] }]
theorem gap_cell (w : World) (t : TypeId) (q : Nat) (h : q < 5) : (w.alloc (.cells gapsBlock t)).cell? ⟨w.heap.size, q, none⟩ = some (.string ⟨(gaps[q]'h).toArray⟩) := by
  match q, h with
  | 0, _ => simp [go_sem, gapsBlock, gaps]
  | 1, _ => simp [go_sem, gapsBlock, gaps]
  | 2, _ => simp [go_sem, gapsBlock, gaps]
  | 3, _ => simp [go_sem, gapsBlock, gaps]
  | 4, _ => simp [go_sem, gapsBlock, gaps]
theorem gap_le (q : Nat) (h : q < 5) : (gaps[q]'h).length ≤ 8 := by
  match q, h with
  | 0, _ => simp [gaps]
  | 1, _ => simp [gaps]
  | 2, _ => simp [gaps]
  | 3, _ => simp [gaps]
  | 4, _ => simp [gaps]


/-- what the reading of a text brings under 2^40 -/
def ReadsAs (text : List UInt8) (cs : List DT) (r i : Int) (ks : List DT) (er : Int) : Prop :=
  (∃ k n, wholeM (fun m => withinB m 4787326403894837248) (fun m => withinB m 4787326403894837248) text = .ok (cs, .node r i ks) k n) ∧ er = 0 ∨
  (∃ k, wholeM (fun m => withinB m 4787326403894837248) (fun m => withinB m 4787326403894837248) text = .bad k .parse) ∧ cs = [] ∧ r = 0 ∧ i = 0 ∧ ks = [] ∧ er = 2
theorem gives_any (text : List UInt8) (hz : text.length ≤ 1000000) : ∃ cs r i ks er, ReadsAs text cs r i ks er := by
  cases hf : wholeM (fun m => withinB m 4787326403894837248) (fun m => withinB m 4787326403894837248) text with
  | ok x k n =>
    obtain ⟨cs, ⟨r, i, ks⟩⟩ := x
    exact ⟨cs, r, i, ks, 0, .inl ⟨⟨k, n, hf⟩, rfl⟩⟩
  | bad k y =>
    obtain rfl := whole_bad40 hz hf
    exact ⟨_, _, _, _, _, .inr ⟨⟨k, hf⟩, rfl, rfl, rfl, rfl, rfl⟩⟩
theorem parse_gives (s : ByteArray) (w : World) (ht : Tab w) (hs : s.size ≤ 1099511627776) (cs : List DT) (r i : Int) (ks : List DT) (er : Int) (h : ReadsAs s.data.toList cs r i ks er) :
    Calls Tryd.prog 21 #[.string s, .float .f64 4787326403894837248, .float .f64 4787326403894837248] w fun e w' => ∃ (b1 b2 : Option Addr) (c1 c2 : Nat) (pl : Int), e = .returned (.tuple #[.agg #[.slice b1 cs.length c1, .int .i64 r, .int .i64 i, .slice b2 ks.length c2], .int .i64 er, .int .i64 pl, .string ⟨#[]⟩]) ∧ RepK w' cs (.slice b1 cs.length c1) ∧ RepK w' ks (.slice b2 ks.length c2) ∧ Below w.heap.size w w' := by
  rcases h with ⟨h, rfl⟩ | ⟨⟨k, h⟩, rfl, rfl, rfl, rfl, rfl⟩
  · refine (parse_ok s _ _ w ht hs cs (.node r i ks) h).mono ?_
    rintro e w1 ⟨cv, v, rfl, hk1, hk2, _, _, hb1⟩
    obtain ⟨_, a1, c1, rfl⟩ := hk1.form
    obtain ⟨_, a2, c2, rfl⟩ := RepK.form hk2
    exact ⟨_, _, _, _, _, rfl, hk1, hk2, hb1⟩
  · refine (parse_bad s _ _ w ht hs k .parse h).mono ?_
    rintro e w1 ⟨rfl, hb1⟩
    exact ⟨none, none, 0, 0, _, rfl, .nil none 0, .nil none 0, hb1⟩

set_option maxHeartbeats 2000000 in
set_option maxRecDepth 100000 in
theorem parseBetween_walk (s : ByteArray) (ga : Option Addr) (gn gc : Nat) (w : World) (hs : s.size ≤ maxLen) (hgn : gn ≤ maxLen) (hg : IntsAt w ga gn) (ht : Tab w) :
    Calls Tryd.prog 8 #[.string s, .slice ga gn gc] w fun e w' => e = .returned (.bool true) ∧ Below w.heap.size w w' := by
  have HT := Lib.hid ht
  clear ht
  unfold maxLen at hgn hs
  by_cases hl : (3000 : Int) < s.size
  · go_enter Tryd.func8, Tryd.ntmps8
    go_wp2
    go_ret
    exact ⟨rfl, Below.refl _ _⟩
  have HS : Hid (s.size ≤ 3000) := Lib.hid (by omega)
  have hz : s.data.toList.length = s.size := by simp
  have hlen := lexL_length s.data.toList
  rw [hz] at hlen
  cases hq : lexL s.data.toList with
  | mk toks fault =>
  rw [hq] at hlen
  have hlen2 : toks.length ≤ 3000 := Nat.le_trans hlen HS.out
  clear hlen
  have HQ := Lib.hid hq
  cases fault with
  | some p =>
    obtain ⟨k, hf⟩ : ∃ k, wholeM (fun m => withinB m 4787326403894837248) (fun m => withinB m 4787326403894837248) s.data.toList = .bad k .parse := by
      cases hf : wholeM (fun m => withinB m 4787326403894837248) (fun m => withinB m 4787326403894837248) s.data.toList with
      | bad k y => rw [whole_bad40 (by have := HS.out; omega) hf]; exact ⟨k, rfl⟩
      | ok x k n => have := (wholeM_ok hf).2; rw [hq] at this; simp at this
    have HF := Lib.hid hf
    clear hf hq hz
    go_enter Tryd.func8, Tryd.ntmps8
    go_wp2_with fail
    refine (parse_bad s _ _ _ HT.out (by have := HS.out; omega) k .parse HF.out).mono ?_
    rintro e w1 ⟨he, hb1⟩
    generalize placeM s.data.toList k = pl at *
    obtain rfl := he
    have HBW := Lib.hid (hb1.trans ((below_alloc w1 (.cells #[.slice none 0 0, .int .i64 0, .int .i64 0, .slice none 0 0] 26)).mono hb1.size))
    clear hb1
    simp only [errOf, wordOf, fileV]
    go_wp2_with fail
    refine (rlex_bad s _ toks p HQ.out (by have := HS.out; omega)).mono ?_
    rintro e w2 ⟨v2, rfl, hown2, hb2⟩
    have HBW2 := Lib.hid (HBW.out.trans (hb2.mono HBW.out.size))
    clear hown2 hb2
    go_wp2_with fail
    refine (wakes13 _ (HT.out.below HBW2.out)).mono ?_
    rintro e w5 ⟨rfl, hb5⟩
    have HB5 := Lib.hid (HBW2.out.trans (hb5.mono HBW2.out.size))
    clear hb5
    go_wp2
    go_ret
    exact ⟨rfl, HB5.out⟩
  | none =>
    obtain ⟨cs, r, i, ks, er, hgiv⟩ := gives_any s.data.toList (by have := HS.out; omega)
    have HGV := Lib.hid hgiv
    have HTX : Hid (∀ (k : Nat) (h : k < toks.length), toks[k].text.length ≤ 3000) := Lib.hid (fun k h => by
      have := spans_pos s.data.toList 0 toks (spans_lexL _ _ hq) k h
      have := HS.out
      omega)
    have HEACH := Lib.hid (fun t => lexL_each hq t)
    clear hgiv hz hq
    go_enter Tryd.func8, Tryd.ntmps8
    go_wp2_with fail
    refine (parse_gives s _ HT.out (by have := HS.out; omega) cs r i ks er HGV.out).mono ?_
    rintro e w1 ⟨b1, b2, c1, c2, pl, rfl, hk1, hk2, hb1⟩
    have HK : Hid (RepK (w1.alloc (.cells #[.slice b1 cs.length c1, .int .i64 r, .int .i64 i, .slice b2 ks.length c2] 26)) cs (.slice b1 cs.length c1) ∧ RepK (w1.alloc (.cells #[.slice b1 cs.length c1, .int .i64 r, .int .i64 i, .slice b2 ks.length c2] 26)) ks (.slice b2 ks.length c2)) := Lib.hid ⟨hk1.kept (below_alloc _ _), RepK.kept (below_alloc _ _) hk2⟩
    have HB0 : Hid (Below (w1.heap.size + 1) (w1.alloc (.cells #[.slice b1 cs.length c1, .int .i64 r, .int .i64 i, .slice b2 ks.length c2] 26)) (w1.alloc (.cells #[.slice b1 cs.length c1, .int .i64 r, .int .i64 i, .slice b2 ks.length c2] 26))) := Lib.hid (Below.refl _ _)
    have HBW := Lib.hid (hb1.trans ((below_alloc w1 (.cells #[.slice b1 cs.length c1, .int .i64 r, .int .i64 i, .slice b2 ks.length c2] 26)).mono hb1.size))
    have HZ : Hid ((w1.alloc (.cells #[.slice b1 cs.length c1, .int .i64 r, .int .i64 i, .slice b2 ks.length c2] 26)).heap.size = w1.heap.size + 1) := Lib.hid (by simp)
    clear hk1 hk2 hb1
    go_wp2_with fail
    refine (rlex_ok s _ toks HQ.out (by have := HS.out; omega)).mono ?_
    rintro e w2 ⟨v2, rfl, hown2, hb2⟩
    have hh2 := Has.of_owns hown2
    obtain ⟨a5, c5, rfl⟩ := hh2.slice
    have HH2 := Lib.hid hh2
    have HB2 := Lib.hid (HB0.out.trans (hb2.mono (Nat.le_of_eq HZ.out.symm)))
    have HBW2 := Lib.hid (HBW.out.trans (hb2.mono HBW.out.size))
    clear hown2 hh2 hb2
    go_wp2_with fail
    generalize hW : w2.alloc (Obj.cells #[.string { data := #[32] }, .string { data := #[10] }, .string { data := #[9, 32] }, .string { data := #[59, 32, 97, 32, 40, 32, 98, 10] }, .string { data := #[32, 59, 10, 59, 41, 10] }] 9) = W
    have hbW : Below w2.heap.size w2 W := by rw [← hW]; exact (Below.refl _ _).alloc (Nat.le_refl _) _
    have HGAP : Hid (∀ q (h : q < 5), W.cell? ⟨w2.heap.size, q, none⟩ = some (.string ⟨(gaps[q]'h).toArray⟩)) := Lib.hid (fun q h => by rw [← hW]; exact gap_cell w2 _ q h)
    have hbw : Below w.heap.size w W := HBW2.out.trans (hbW.mono HBW2.out.size)
    have HBWW := Lib.hid hbw
    have HBB : Hid (Below (w1.heap.size + 1) (w1.alloc (.cells #[.slice b1 cs.length c1, .int .i64 r, .int .i64 i, .slice b2 ks.length c2] 26)) W) := Lib.hid (HB2.out.trans (hbW.mono (by have := HB2.out.size; rw [HZ.out] at this; exact this)))
    have HHW : Hid (Has W 3 (.slice a5 toks.length c5) toks.length (toksCells toks)) := Lib.hid (HH2.out.below hbW)
    have HG : Hid (IntsAt w ga gn) := Lib.hid hg
    clear hW hg hbW
    go_loopw [12, 13, 14] (fun x i _ wr => ∃ (k n : Nat) (X : List UInt8), i = .int .i64 k ∧ x = .string ⟨X.toArray⟩ ∧ k ≤ toks.length ∧ X.length ≤ 3008 * k ∧ Joined X (toks.take k) ∧ Alone X (toks.take k) ∧ wr = W.drewN n) (fun _ i _ _ => toks.length - (intOf i).toNat)
    case atStart => exact ⟨0, 0, [], rfl, rfl, Nat.zero_le _, Nat.zero_le _, Joined.nil, Alone.nil, rfl⟩
    case round =>
      obtain ⟨k, n, X, rfl, rfl, hk, hX, hjn, hal, rfl⟩ := hrel
      have HJN := Lib.hid hjn
      have HAL := Lib.hid hal
      clear hjn hal
      by_cases hlt : k < toks.length
      · obtain ⟨b, o, rfl, hb, hcells⟩ := HHW.out.open (by omega)
        have hat := toksCells_at toks k hlt
        have t1 : W.cell? ⟨b, o + k * 3 + 1, none⟩ = _ := (hcells (k * 3 + 1) (by omega)).trans hat.2.1
        have htl := HTX.out k hlt
        have HEA := Lib.hid (HEACH.out toks[k] (List.getElem_mem hlt))
        have HTK : Hid (toks.take (k + 1) = toks.take k ++ [toks[k]]) := Lib.hid (by rw [List.take_succ_eq_append_getElem hlt])
        clear hcells hat
        generalize toks[k] = t at *
        have key : ∀ (q : Nat) (h : q < 5), ∃ g : List UInt8, g.length ≤ 8 ∧ W.cell? ⟨w2.heap.size, q, none⟩ = some (.string ⟨g.toArray⟩) ∧ Joined (X ++ g ++ t.text) (toks.take (k + 1)) ∧ Alone (X ++ g ++ t.text) (toks.take (k + 1)) := fun q h =>
          ⟨gaps[q], gap_le q h, HGAP.out q h, by rw [HTK.out]; exact HJN.out.next HEA.out (gap_sep q h) (gap_skip q h), by rw [HTK.out]; exact HJN.out.ends HEA.out (gap_sep q h) (gap_skip q h)⟩
        have hfin : ∀ (g : List UInt8), (ByteArray.mk X.toArray) ++ (ByteArray.mk g.toArray) ++ (ByteArray.mk t.text.toArray) = ⟨(X ++ g ++ t.text).toArray⟩ := fun g => by rw [str_append, str_append]
        have HFIN := Lib.hid hfin
        have KEY := Lib.hid key
        clear hfin key
        by_cases hkg : k < gn
        · rcases HG.out with h0 | ⟨gb, go, rfl, hgb, hgc⟩
          · omega
          obtain ⟨z, hz⟩ := hgc k hkg
          have hz2 : W.cell? ⟨gb, go + k, none⟩ = some (.int .i64 z) := (hbw.cell (p := ⟨gb, go + k, none⟩) hgb).trans hz
          clear hz hgc
          obtain ⟨m, hm⟩ := wrap_nat z
          obtain ⟨q, hq, hqm⟩ : ∃ q : Nat, q < 5 ∧ (m : Int) % 5 = (q : Int) := ⟨m % 5, Nat.mod_lt _ (by omega), by omega⟩
          obtain ⟨g, hg8, hgcell, hgj⟩ := KEY.out q hq
          have hq5 : (q : Int) < 5 := by omega
          have HGJ := Lib.hid hgj
          clear hgj
          have hns1 : ¬ 9223372036854775807 < X.length + g.length := by omega
          have hns2 : ¬ 9223372036854775807 < X.length + g.length + t.text.length := by omega
          go_wp2_with fail
          refine wp_region_quiet_lit (by kernel_rfl) (by kernel_rfl) ?_
          repeat (quiet_step (fail))
          refine wpQuiet_nil ?_
          intro _ hw'
          obtain ⟨nq, hw''⟩ := hw'
          subst hw''
          go_wp2
          go_roundw
          case rel => exact ⟨k + 1, n + nq, X ++ g ++ t.text, by go_num, by rw [← HFIN.out], by omega, by simp only [List.length_append]; omega, HGJ.out.1, HGJ.out.2, rfl⟩
          case measure => simp [intOf]; omega
        · obtain ⟨g, hg8, hgcell, hgj⟩ := KEY.out 0 (by omega)
          have HGJ := Lib.hid hgj
          clear hgj
          have hns1 : ¬ 9223372036854775807 < X.length + g.length := by omega
          have hns2 : ¬ 9223372036854775807 < X.length + g.length + t.text.length := by omega
          go_wp2_with fail
          refine wp_region_quiet_lit (by kernel_rfl) (by kernel_rfl) ?_
          repeat (quiet_step (fail))
          refine wpQuiet_nil ?_
          intro _ hw'
          obtain ⟨nq, hw''⟩ := hw'
          subst hw''
          go_wp2
          go_roundw
          case rel => exact ⟨k + 1, n + nq, X ++ g ++ t.text, by go_num, by rw [← HFIN.out], by omega, by simp only [List.length_append]; omega, HGJ.out.1, HGJ.out.2, rfl⟩
          case measure => simp [intOf]; omega
      · have hk2 : k = toks.length := by omega
        subst hk2
        have HGX : Hid (ReadsAs (ByteArray.mk X.toArray).data.toList cs r i ks er) := Lib.hid (by
          have h1 := HAL.out
          rw [List.take_length] at h1
          have h2 := between_same HQ.out h1 (fun m => withinB m 4787326403894837248) (fun m => withinB m 4787326403894837248)
          have h3 := HGV.out
          unfold ReadsAs at h3 ⊢
          rw [show (ByteArray.mk X.toArray).data.toList = X from by simp, h2]
          exact h3)
        have hxs : (ByteArray.mk X.toArray).size ≤ 1099511627776 := by
          have e1 : (ByteArray.mk X.toArray).size = X.length := by simp [ByteArray.size]
          omega
        have HXS := Lib.hid hxs
        have HBn := Lib.hid (below_drewN HBWW.out n)
        have HBBn := Lib.hid (below_drewN HBB.out n)
        clear hxs
        go_wp2_with fail
        refine (parse_gives _ _ (HT.out.below HBn.out) HXS.out cs r i ks er HGX.out).mono ?_
        rintro e w3 ⟨b3, b4, c3, c4, pl2, rfl, hk3, hk4, hb3⟩
        have HB3 := Lib.hid ((HBBn.out.trans (hb3.mono (by have := HBBn.out.size; rw [HZ.out] at this; exact this))).trans ((below_alloc w3 (.cells #[.slice b3 cs.length c3, .int .i64 r, .int .i64 i, .slice b4 ks.length c4] 26)).mono (by have := HBBn.out.size; rw [HZ.out] at this; exact Nat.le_trans this hb3.size)))
        have HBW3 := Lib.hid ((HBn.out.trans (hb3.mono HBn.out.size)).trans ((below_alloc w3 (.cells #[.slice b3 cs.length c3, .int .i64 r, .int .i64 i, .slice b4 ks.length c4] 26)).mono (Nat.le_trans HBn.out.size hb3.size)))
        have HK3 : Hid (RepK (w3.alloc (.cells #[.slice b3 cs.length c3, .int .i64 r, .int .i64 i, .slice b4 ks.length c4] 26)) cs (.slice b3 cs.length c3) ∧ RepK (w3.alloc (.cells #[.slice b3 cs.length c3, .int .i64 r, .int .i64 i, .slice b4 ks.length c4] 26)) ks (.slice b4 ks.length c4)) := Lib.hid ⟨hk3.kept (below_alloc _ _), RepK.kept (below_alloc _ _) hk4⟩
        have d0 : (w3.alloc (.cells #[.slice b3 cs.length c3, .int .i64 r, .int .i64 i, .slice b4 ks.length c4] 26)).cell? ⟨w1.heap.size, 0, none⟩ = some (.slice b1 cs.length c1) := box_cell HB3.out 0 (by simp)
        have d1 : (w3.alloc (.cells #[.slice b3 cs.length c3, .int .i64 r, .int .i64 i, .slice b4 ks.length c4] 26)).cell? ⟨w1.heap.size, 1, none⟩ = some (.int .i64 r) := box_cell HB3.out 1 (by simp)
        have d2 : (w3.alloc (.cells #[.slice b3 cs.length c3, .int .i64 r, .int .i64 i, .slice b4 ks.length c4] 26)).cell? ⟨w1.heap.size, 2, none⟩ = some (.int .i64 i) := box_cell HB3.out 2 (by simp)
        have d3 : (w3.alloc (.cells #[.slice b3 cs.length c3, .int .i64 r, .int .i64 i, .slice b4 ks.length c4] 26)).cell? ⟨w1.heap.size, 3, none⟩ = some (.slice b2 ks.length c2) := box_cell HB3.out 3 (by simp)
        clear hk3 hk4 hb3
        go_wp2_with fail
        refine (keepFile_any cs cs _ _ r i r i ks ks _ _ _ (HK.out.1.kept (HB3.out.mono (Nat.le_of_eq HZ.out))) HK3.out.1 (HK.out.2.kept (HB3.out.mono (Nat.le_of_eq HZ.out))) HK3.out.2).mono ?_
        rintro e w4 ⟨rfl, hb4⟩
        rw [(sameDs_iff cs cs).2 rfl, (sameD_iff (.node r i ks) (.node r i ks)).2 rfl, Bool.and_self]
        have HB4 := Lib.hid (HBW3.out.trans (hb4.mono HBW3.out.size))
        clear hb4
        go_wp2_with fail
        refine (wakes13 _ (HT.out.below HB4.out)).mono ?_
        rintro e w5 ⟨rfl, hb5⟩
        have HB5 := Lib.hid (HB4.out.trans (hb5.mono HB4.out.size))
        clear hb5
        go_wp2
        go_ret
        exact ⟨rfl, HB5.out⟩
end Go.Proofs.YtfpiogaakblpeaaDoor
