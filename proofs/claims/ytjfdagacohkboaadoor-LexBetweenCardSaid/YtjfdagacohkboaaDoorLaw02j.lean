/- The walk of transhiplaw02.LexBetween. -/
import Derived.Test.YtjfdagacohkboaaDoorLaw02i
import Derived.Test.YtjfdagacohkboaaDoorLaw02h
namespace Go.Proofs.YtjfdagacohkboaaDoor
open Go.RowKit

/-- a slice of ints that can be read -/
def IntsAt (w : World) (ga : Option Addr) (gn : Nat) : Prop :=
  gn = 0 ∨ ∃ b o, ga = some ⟨b, o, none⟩ ∧ b < w.heap.size ∧ ∀ j, j < gn → ∃ z : Int, w.cell? ⟨b, o + j, none⟩ = some (.int .i64 z)

theorem wrap_nat (z : Int) : ∃ m : Nat, IntKind.u64.wrap z = (m : Int) := by
  refine ⟨(IntKind.u64.wrap z).toNat, ?_⟩
  have : 0 ≤ IntKind.u64.wrap z := by
    simp only [IntKind.wrap, IntKind.bits, IntKind.signed]
    simp
    omega
  omega

def gapsBlock : Array Value := #[.string { data := #[32] }, .string { data := #[10] }, .string { data := #[9, 32] }, .string { data := #[59, 32, 97, 32, 40, 32, 98, 10] }, .string { data := #[32, 59, 10, 59, 41, 10] }]
theorem gap_cell (w : World) (t : TypeId) (q : Nat) (h : q < 5) : (w.alloc (.cells gapsBlock t)).cell? ⟨w.heap.size, q, none⟩ = some (.string ⟨(gaps[q]'h).toArray⟩) := by
  match q, h with
  | 0, _ => simp [go_sem, gapsBlock, gaps]
  | 1, _ => simp [go_sem, gapsBlock, gaps]
  | 2, _ => simp [go_sem, gapsBlock, gaps]
  | 3, _ => simp [go_sem, gapsBlock, gaps]
  | 4, _ => simp [go_sem, gapsBlock, gaps]
theorem gap_le (q : Nat) (h : q < 5) : (gaps[q]'h).length ≤ 8 := by
  match q, h with
  | 0, _ => simp [gaps]
  | 1, _ => simp [gaps]
  | 2, _ => simp [gaps]
  | 3, _ => simp [gaps]
  | 4, _ => simp [gaps]

set_option maxHeartbeats 2000000 in
set_option maxRecDepth 100000 in
theorem lexBetween_walk (s : ByteArray) (ga : Option Addr) (gn gc : Nat) (w : World) (hs : s.size ≤ maxLen) (hgn : gn ≤ maxLen) (hg : IntsAt w ga gn) (ht : Tab w) :
    Calls Tryd.prog 10 #[.string s, .slice ga gn gc] w fun e w' => e = .returned (.bool true) ∧ Below w.heap.size w w' := by
  have HT := Lib.hid ht
  clear ht
  unfold maxLen at hgn
  by_cases h2000 : 2000 < s.size
  · have h2 : (2000 : Int) < (s.size : Int) := by omega
    clear hs
    go_enter Tryd.func10, Tryd.ntmps10
    go_wp2
    go_ret
    exact ⟨rfl, Below.refl _ _⟩
  have h2 : ¬ (2000 : Int) < (s.size : Int) := by omega
  have HSB : Hid (s.size ≤ 1099511627776) := Lib.hid (by omega)
  clear hs
  have hlen := lexL_length s.data.toList
  have hsl : s.data.toList.length = s.size := by simp
  rw [hsl] at hlen
  cases hq : lexL s.data.toList with
  | mk toks fault =>
  rw [hq] at hlen
  have hlen2 : toks.length ≤ 2000 := Nat.le_trans hlen (by omega)
  clear hlen
  cases fault with
  | some p =>
    clear hsl
    go_enter Tryd.func10, Tryd.ntmps10
    go_wp2_with fail
    refine (lex_bad s w toks p hq HSB.out HT.out).mono ?_
    rintro e w1 ⟨rfl, hb1⟩
    have HT1 := Lib.hid (HT.out.below hb1)
    clear hq
    go_wp2_with fail
    refine (wakes02 w1 HT1.out).mono ?_
    rintro e w2 ⟨rfl, hb2⟩
    go_wp2
    go_ret
    exact ⟨rfl, hb1.trans (hb2.mono hb1.size)⟩
  | none =>
    have HTX : Hid (∀ (k : Nat) (h : k < toks.length), toks[k].text.length ≤ 2000) := Lib.hid (fun k h => by
      have := spans_pos s.data.toList 0 toks (spans_lexL _ _ hq) k h
      omega)
    have HEACH := Lib.hid (fun t => lexL_each hq t)
    clear hsl
    have HQ := Lib.hid hq
    clear hq
    go_enter Tryd.func10, Tryd.ntmps10
    go_wp2_with fail
    refine (lex_ok s w toks HQ.out HSB.out HT.out).mono ?_
    rintro e w1 ⟨v1, rfl, hown1, hb1⟩
    have HT1 := Lib.hid (HT.out.below hb1)
    have hh1 := Has.of_owns hown1
    obtain ⟨a1, c1, rfl⟩ := hh1.slice
    have HH1 := Lib.hid hh1
    clear hown1 hh1
    go_wp2_with fail
    generalize hW : w1.alloc (Obj.cells #[.string { data := #[32] }, .string { data := #[10] }, .string { data := #[9, 32] }, .string { data := #[59, 32, 97, 32, 40, 32, 98, 10] }, .string { data := #[32, 59, 10, 59, 41, 10] }] 9) = W
    have hbW : Below w1.heap.size w1 W := by rw [← hW]; exact (Below.refl _ _).alloc (Nat.le_refl _) _
    have HGAP : Hid (∀ q (h : q < 5), W.cell? ⟨w1.heap.size, q, none⟩ = some (.string ⟨(gaps[q]'h).toArray⟩)) := Lib.hid (fun q h => by rw [← hW]; exact gap_cell w1 _ q h)
    have hbw : Below w.heap.size w W := hb1.trans (hbW.mono hb1.size)
    have HTW : Hid (Tab W) := Lib.hid (HT1.out.below hbW)
    have HHW : Hid (Has W 3 (.slice a1 toks.length c1) toks.length (toksCells toks)) := Lib.hid (HH1.out.below hbW)
    have HG : Hid (IntsAt w ga gn) := Lib.hid hg
    clear hW hg
    go_loopw [9, 10, 11] (fun x i _ wr => ∃ (k n : Nat) (X : List UInt8), i = .int .i64 k ∧ x = .string ⟨X.toArray⟩ ∧ k ≤ toks.length ∧ X.length ≤ 2008 * k ∧ Joined X (toks.take k) ∧ wr = W.drewN n) (fun _ i _ _ => toks.length - (intOf i).toNat)
    case atStart => exact ⟨0, 0, [], rfl, rfl, Nat.zero_le _, Nat.zero_le _, Joined.nil, rfl⟩
    case round =>
      obtain ⟨k, n, X, rfl, rfl, hk, hX, hjn, rfl⟩ := hrel
      have HJN := Lib.hid hjn
      clear hjn
      by_cases hlt : k < toks.length
      · obtain ⟨b, o, rfl, hb, hcells⟩ := HHW.out.open (by omega)
        have hat := toksCells_at toks k hlt
        have t1 : W.cell? ⟨b, o + k * 3 + 1, none⟩ = _ := (hcells (k * 3 + 1) (by omega)).trans hat.2.1
        have htl := HTX.out k hlt
        have HEA := Lib.hid (HEACH.out toks[k] (List.getElem_mem hlt))
        have HTK : Hid (toks.take (k + 1) = toks.take k ++ [toks[k]]) := Lib.hid (by rw [List.take_succ_eq_append_getElem hlt])
        clear hcells hat
        generalize toks[k] = t at *
        have key : ∀ (q : Nat) (h : q < 5), ∃ g : List UInt8, g.length ≤ 8 ∧ W.cell? ⟨w1.heap.size, q, none⟩ = some (.string ⟨g.toArray⟩) ∧ Joined (X ++ g ++ t.text) (toks.take (k + 1)) := fun q h =>
          ⟨gaps[q], gap_le q h, HGAP.out q h, by rw [HTK.out]; exact HJN.out.next HEA.out (gap_sep q h) (gap_skip q h)⟩
        have hfin : ∀ (g : List UInt8), (ByteArray.mk X.toArray) ++ (ByteArray.mk g.toArray) ++ (ByteArray.mk t.text.toArray) = ⟨(X ++ g ++ t.text).toArray⟩ := fun g => by rw [str_append, str_append]
        have HFIN := Lib.hid hfin
        have KEY := Lib.hid key
        clear hfin key
        by_cases hkg : k < gn
        · rcases HG.out with h0 | ⟨gb, go, rfl, hgb, hgc⟩
          · omega
          obtain ⟨z, hz⟩ := hgc k hkg
          have hz2 : W.cell? ⟨gb, go + k, none⟩ = some (.int .i64 z) := (hbw.cell (p := ⟨gb, go + k, none⟩) hgb).trans hz
          clear hz hgc
          obtain ⟨m, hm⟩ := wrap_nat z
          obtain ⟨q, hq, hqm⟩ : ∃ q : Nat, q < 5 ∧ (m : Int) % 5 = (q : Int) := ⟨m % 5, Nat.mod_lt _ (by omega), by omega⟩
          obtain ⟨g, hg8, hgcell, hgj⟩ := KEY.out q hq
          have hq5 : (q : Int) < 5 := by omega
          have HGJ := Lib.hid hgj
          clear hgj
          have hns1 : ¬ 9223372036854775807 < X.length + g.length := by omega
          have hns2 : ¬ 9223372036854775807 < X.length + g.length + t.text.length := by omega
          go_wp2_with fail
          refine wp_region_quiet_lit (by kernel_rfl) (by kernel_rfl) ?_
          repeat (quiet_step (fail))
          refine wpQuiet_nil ?_
          intro _ hw'
          obtain ⟨nq, hw''⟩ := hw'
          subst hw''
          go_wp2
          go_roundw
          case rel => exact ⟨k + 1, n + nq, X ++ g ++ t.text, by go_num, by rw [← HFIN.out], by omega, by simp only [List.length_append]; omega, HGJ.out, rfl⟩
          case measure => simp [intOf]; omega
        · obtain ⟨g, hg8, hgcell, hgj⟩ := KEY.out 0 (by omega)
          have HGJ := Lib.hid hgj
          clear hgj
          have hns1 : ¬ 9223372036854775807 < X.length + g.length := by omega
          have hns2 : ¬ 9223372036854775807 < X.length + g.length + t.text.length := by omega
          go_wp2_with fail
          refine wp_region_quiet_lit (by kernel_rfl) (by kernel_rfl) ?_
          repeat (quiet_step (fail))
          refine wpQuiet_nil ?_
          intro _ hw'
          obtain ⟨nq, hw''⟩ := hw'
          subst hw''
          go_wp2
          go_roundw
          case rel => exact ⟨k + 1, n + nq, X ++ g ++ t.text, by go_num, by rw [← HFIN.out], by omega, by simp only [List.length_append]; omega, HGJ.out, rfl⟩
          case measure => simp [intOf]; omega
      · have hk2 : k = toks.length := by omega
        obtain ⟨lm, hlm1, hlm2⟩ := (hk2 ▸ HJN.out).done
        rw [List.take_length] at hlm2
        have hml : lm.length = toks.length := by have := congrArg List.length hlm2; simpa using this
        have hmn : ((lm.length : Int) != (toks.length : Int)) = false := by rw [bne_eq_false_iff_eq]; omega
        have hns : ¬ 9223372036854775807 < X.length + 4 := by omega
        have HLM1 : Hid (lexL ((ByteArray.mk X.toArray) ++ ByteArray.mk #[59, 101, 110, 100]).data.toList = (lm, none)) := Lib.hid (by
          have e : ((ByteArray.mk X.toArray) ++ ByteArray.mk #[59, 101, 110, 100]).data.toList = X ++ [59, 101, 110, 100] := by simp
          rw [e, hlm1])
        have HSZ : Hid (((ByteArray.mk X.toArray) ++ ByteArray.mk #[59, 101, 110, 100]).size ≤ 1099511627776) := Lib.hid (by
          rw [ByteArray.size_append]
          have e1 : (ByteArray.mk X.toArray).size = X.length := by simp [ByteArray.size]
          have e2 : (ByteArray.mk #[59, 101, 110, 100]).size = 4 := rfl
          omega)
        have HEQ : Hid (∀ (j : Nat) (h : j < toks.length) (h' : j < lm.length), lm[j].kind = toks[j].kind ∧ lm[j].text = toks[j].text) := Lib.hid (fun j h h' => by
          have h3 : (lm.map eraseT)[j]? = (toks.map eraseT)[j]? := by rw [hlm2]
          rw [List.getElem?_map, List.getElem?_map, List.getElem?_eq_getElem h, List.getElem?_eq_getElem h'] at h3
          have h4 := Option.some.inj h3
          exact ⟨(Prod.mk.inj h4).1, (Prod.mk.inj h4).2⟩)
        have HML := Lib.hid hml
        have hml2 : lm.length ≤ 2000 := by omega
        have HTn : Hid (Tab (W.drewN n)) := Lib.hid (HTW.out.below (below_drewN (Below.refl _ _) n))
        clear hlm1 hlm2 hml hk2
        go_wp2_with fail
        refine (lex_ok _ _ lm HLM1.out HSZ.out HTn.out).mono ?_
        rintro e w2 ⟨v2, rfl, hown2, hb2⟩
        have hh2 := Has.of_owns hown2
        obtain ⟨a2, c2, rfl⟩ := hh2.slice
        have HH2 := Lib.hid hh2
        have HT2 := Lib.hid (HTn.out.below hb2)
        have hbw2 : Below W.heap.size W w2 := (below_drewN (Below.refl _ _) n).trans hb2
        have HH1' : Hid (Has w2 3 (.slice a1 toks.length c1) toks.length (toksCells toks)) := Lib.hid (HHW.out.below hbw2)
        have hbx : Below w.heap.size w w2 := hbw.trans (hbw2.mono hbw.size)
        clear hown2 hh2 hb2
        go_wp2_with fail
        go_loopw [15] (fun i wr => ∃ (j m : Nat), i = .int .i64 j ∧ j ≤ toks.length ∧ wr = w2.drewN m) (fun i _ => toks.length - (intOf i).toNat)
        case atStart => exact ⟨0, 0, rfl, Nat.zero_le _, rfl⟩
        case round =>
          obtain ⟨j, m, rfl, hj, rfl⟩ := hrel
          by_cases hjt : j < toks.length
          · have hml := HML.out
            obtain ⟨b, o, rfl, hb, hcells⟩ := HH1'.out.open (by omega)
            obtain ⟨b', o', rfl, hb', hcells'⟩ := HH2.out.open (by omega)
            have hat := toksCells_at toks j hjt
            have hat' := toksCells_at lm j (by omega)
            have heq := HEQ.out j hjt (by omega)
            rw [heq.1, heq.2] at hat'
            have p0 : w2.cell? ⟨b, o + j * 3, none⟩ = _ := (hcells (j * 3) (by omega)).trans hat.1
            have p1 : w2.cell? ⟨b, o + j * 3 + 1, none⟩ = _ := (hcells (j * 3 + 1) (by omega)).trans hat.2.1
            have q0 : w2.cell? ⟨b', o' + j * 3, none⟩ = _ := (hcells' (j * 3) (by omega)).trans hat'.1
            have q1 : w2.cell? ⟨b', o' + j * 3 + 1, none⟩ = _ := (hcells' (j * 3 + 1) (by omega)).trans hat'.2.1
            have hjl : j < lm.length := by omega
            clear hat hat' heq hcells hcells' hml
            go_wp2_with fail
            refine wp_region_quiet_lit (by kernel_rfl) (by kernel_rfl) ?_
            repeat (quiet_step (fail))
            refine wpQuiet_nil ?_
            intro _ hw'
            obtain ⟨nq, hw''⟩ := hw'
            subst hw''
            go_wp2
            go_roundw
            case rel => exact ⟨j + 1, m + nq, by go_num, by omega, rfl⟩
            case measure => simp [intOf]; omega
          · have HTm : Hid (Tab (w2.drewN m)) := Lib.hid (HT2.out.below (below_drewN (Below.refl _ _) m))
            go_wp2_with fail
            refine (wakes02 _ HTm.out).mono ?_
            rintro e w4 ⟨rfl, hb4⟩
            go_wp2
            go_ret
            exact ⟨rfl, (below_drewN hbx m).trans (hb4.mono hbx.size)⟩
end Go.Proofs.YtjfdagacohkboaaDoor
