/- Walks of write.Names, transhipref09.VNames, transhipkeep.Texts. -/
import Derived.Test.YtefjgpahgffmfaaDoorTz
import Derived.Test.YtefjgpahgffmfaaDoorRefPut
namespace Go.Proofs.YtefjgpahgffmfaaDoor
open Go.RowKit

theorem Tryd.infoStr : (Tryd.prog.info? 9).map (fun i => (i.zero, i.size, i.bytes)) = some (some (.string ByteArray.empty), 1, 16) := by kernel_rfl
theorem row_below {w w1 : World} {base : Nat} {e : TypeId} {size : Nat} {v : Value} {n : Nat} {xs : List Value} (h : w.ownsRow base e size v n xs) (hb : Below w.heap.size w w1) : w1.ownsRow base e size v n xs := by
  refine ⟨h.1, ?_⟩
  rcases h.2 with h2 | ⟨g, cap, cur, rfl, hg, hh, hr⟩
  · exact .inl h2
  · have hlt : g < w.heap.size := (Array.getElem?_eq_some_iff.1 hh).1
    exact .inr ⟨g, cap, cur, rfl, hg, by rw [hb.block g hlt]; exact hh, hr⟩
theorem row_lit {w : World} {e : TypeId} {size : Nat} (w0 : World) (cs : Array Value) (b n : Nat) (hb : b = w0.heap.size) (hm : n ≤ maxLen) (hs : cs.size = n * size) (hw : w = w0.alloc (.cells cs e) := by rfl) :
    Has w size (.slice (some ⟨b, 0, none⟩) n n) n cs.toList := by
  subst hb
  subst hw
  exact Has.of_owns (World.ownsRow_lit (base := 0) w0 cs n (Nat.zero_le _) hm hs)

def textRow (l : List (List UInt8)) : List Value := l.map fun x => .string ⟨x.toArray⟩
def namesL (n : Nat) : List (List UInt8) := (List.range n).map fun (j : Nat) => nameL j
theorem namesL_succ (q : Nat) : namesL (q + 1) = namesL q ++ [nameL q] := by simp [namesL, List.range_succ]
theorem textRow_append (a b : List (List UInt8)) : textRow (a ++ b) = textRow a ++ textRow b := by simp [textRow]
theorem textRow_len (l : List (List UInt8)) : (textRow l).length = l.length := by simp [textRow]
theorem namesL_len (n : Nat) : (namesL n).length = n := by simp [namesL]

theorem row_step {q n : Nat} {rest : List Value} (h : rest.length = n - q) (hq : q < n) : ∃ r0 rest', rest = r0 :: rest' ∧ rest'.length = n - (q + 1) ∧ (textRow (namesL q) ++ rest)[q]? = some r0 ∧ (textRow (namesL q) ++ rest).set q (.string ⟨(nameL q).toArray⟩) = textRow (namesL (q + 1)) ++ rest' := by
  cases rest with
  | nil => simp at h; omega
  | cons r0 rest' =>
    have hl : (textRow (namesL q)).length = q := by rw [textRow_len, namesL_len]
    refine ⟨r0, rest', rfl, by simp at h; omega, ?_, ?_⟩
    · rw [List.getElem?_append_right (by omega), hl]; simp
    · rw [List.set_append_right _ _ (by omega), hl, namesL_succ, textRow_append]
      simp [textRow]

set_option maxRecDepth 100000 in
set_option maxHeartbeats 4000000 in
theorem wNames_any (n : Nat) (w : World) (hn : n ≤ 1000000) (ht : Tab w) :
    Calls Tryd.prog 21 #[.int .i64 n] w fun e w' => ∃ v, e = .returned v ∧ Below w.heap.size w w' ∧ w'.ownsRow w.heap.size 9 1 v n (textRow (namesL n)) := by
  have g1 : decide ((n : Int) < 0) = false := by simp
  have g2 : decide (1000000 < (n : Int)) = false := by simp; omega
  have HT := Lib.hid ht
  clear ht
  obtain ⟨i0, hi, hi0, hi1, hi2⟩ := info_parts Tryd.infoStr
  go_enter Tryd.func21, Tryd.ntmps21
  go_wp2_with (at_make; go_must (refine wpList_make_full _ rfl (.tmp 11) (.tmp 11) 32 rfl w.heap.size 9 i0 _ 1 Tryd.underlying32 hi hi0 hi1 .i64 .i64 _ _ n rfl rfl rfl rfl ?c1 ?c2 (Nat.le_refl _) ?_))
  case c1 => rw [hi2]; omega
  case c2 => unfold maxLen; omega
  intro w1 hown hgrow
  have HB1 : Hid (Below w.heap.size w w1) := Lib.hid ((Below.refl _ w).grown hgrow (Nat.le_refl _) (fun g hg => by cases hg))
  obtain ⟨xs0, hx0⟩ : ∃ xs0 : List Value, w1.ownsRow w.heap.size 9 1 (.slice (some ⟨w.heap.size, 0, none⟩) n n) n xs0 ∧ xs0.length = n * 1 := ⟨_, hown, hown.1⟩
  have HO := Lib.hid hx0
  clear hown hgrow hx0 hi hi0 hi1 hi2
  go_wp2_with fail
  go_loopw [15] (fun ix wr => ∃ (q : Nat), ix = .int .i64 q ∧ q ≤ n ∧ (∃ rest, rest.length = n - q ∧ wr.ownsRow w.heap.size 9 1 (.slice (some ⟨w.heap.size, 0, none⟩) n n) n (textRow (namesL q) ++ rest)) ∧ Below w.heap.size w wr) (fun x _ => n - (intOf x).toNat)
  case atStart => exact ⟨0, rfl, by omega, ⟨xs0, by simpa using HO.out.2, by simpa [textRow, namesL] using HO.out.1⟩, HB1.out⟩
  case round =>
    obtain ⟨q, rfl, hq, ⟨rest, hrl, hown⟩, hbel⟩ := hrel
    by_cases hlt : q < n
    · obtain ⟨r0, rest', hr0, hrl', hat, hset⟩ := row_step hrl hlt
      have HO2 := Lib.hid (And.intro hown (And.intro hat (And.intro hset hrl')))
      have HB2 := Lib.hid hbel
      clear hown hat hset hrl' hr0 hrl hbel
      go_wp2_with fail
      refine (name_any _ _ ⟨by omega, by omega⟩ (HT.out.below HB2.out)).mono ?_
      rintro e w2 ⟨rfl, hb2⟩
      have hown2 := row_below HO2.out.1 hb2
      have hcq : w2.cell? ⟨w.heap.size, q, none⟩ = some r0 := (hown2.cellAt q (by omega)).trans HO2.out.2.1
      have hfq := hown2.frozenAt q
      have hst := hown2.stored q (.string ⟨(nameL q).toArray⟩)
      rw [HO2.out.2.2.1] at hst
      have HB3 := Lib.hid ((HB2.out.trans (hb2.mono HB2.out.size)).setCell (p := ⟨w.heap.size, q, none⟩) (Nat.le_refl _) (.string ⟨(nameL q).toArray⟩))
      have HST := Lib.hid hst.1
      clear hown2 hst hb2
      go_wp2
      go_roundw
      case rel => exact ⟨q + 1, by go_num, by omega, ⟨rest', HO2.out.2.2.2, HST.out⟩, HB3.out⟩
      case measure => simp [intOf]; omega
    · have hql : q = n := by omega
      subst hql
      have hr0 : rest = [] := List.eq_nil_of_length_eq_zero (by omega)
      subst hr0
      rw [List.append_nil] at hown
      have HO2 := Lib.hid (And.intro hown hbel)
      clear hown hbel
      go_wp2
      go_ret
      exact ⟨_, rfl, HO2.out.2, HO2.out.1⟩

set_option maxRecDepth 100000 in
set_option maxHeartbeats 4000000 in
theorem wNames_none (n : Int) (w : World) (hn : n < 0 ∨ 1000000 < n) :
    Calls Tryd.prog 21 #[.int .i64 n] w fun e w' => e = .returned (.slice none 0 0) ∧ w' = w := by
  have hq : decide (n < 0) = true ∨ decide (n < 0) = false ∧ decide (1000000 < n) = true := by
    by_cases h1 : n < 0
    · exact .inl (by simp [h1])
    · exact .inr ⟨by simp [h1], by simp; omega⟩
  clear hn
  rcases hq with g1 | ⟨g1, g2⟩
  all_goals
    go_enter Tryd.func21, Tryd.ntmps21
    go_wp2
    go_ret
    exact ⟨rfl, rfl⟩

set_option maxRecDepth 100000 in
set_option maxHeartbeats 4000000 in
theorem vNames_any (n : Nat) (w : World) (hn : n ≤ 1000000) :
    Calls Tryd.prog 23 #[.int .i64 n] w fun e w' => ∃ v, e = .returned v ∧ Below w.heap.size w w' ∧ w'.ownsRow w.heap.size 9 1 v n (textRow (namesL n)) := by
  have g2 : decide ((n : Int) ≤ 1000000) = true := by simp; omega
  obtain ⟨i0, hi, hi0, hi1, hi2⟩ := info_parts Tryd.infoStr
  have HI := Lib.hid (And.intro hi (And.intro hi0 (And.intro hi1 hi2)))
  clear hi hi0 hi1 hi2
  go_enter Tryd.func23, Tryd.ntmps23
  go_wp2_with fail
  go_loopw [3, 4] (fun v ix wr => ∃ (q : Nat), ix = .int .i64 q ∧ q ≤ n ∧ wr.ownsRow w.heap.size 9 1 v q (textRow (namesL q)) ∧ Below w.heap.size w wr) (fun _ x _ => n - (intOf x).toNat)
  case atStart => exact ⟨0, rfl, by omega, World.ownsRow_nil _ _ _ _, Below.refl _ _⟩
  case round =>
    obtain ⟨q, rfl, hq, hown, hbel⟩ := hrel
    by_cases hlt : q < n
    · have g3 : decide ((q : Int) < (n : Int)) = true := by simp; omega
      have HQ : Hid (In64 (q : Int)) := Lib.hid ⟨by omega, by omega⟩
      have hl : ¬ (9223372036854775807 < 1 + (Lib.itoa q).length) := by have := itoa_le HQ.out; omega
      have E : Hid ((ByteArray.mk #[118]) ++ (ByteArray.mk (Lib.itoa q).toArray) = ⟨(nameL q).toArray⟩) := Lib.hid (str_append [118] (Lib.itoa q))
      have HO := Lib.hid (And.intro hown hbel)
      clear hown hbel
      go_wp2_with fail
      refine (refput_any q _ HQ.out.1 HQ.out.2).mono ?_
      rintro e w2 ⟨rfl, hb2⟩
      have hown2 := row_below HO.out.1 hb2
      have HB2 := Lib.hid (HO.out.2.trans (hb2.mono HO.out.2.size))
      have HO2 := Lib.hid hown2
      clear hb2 hown2
      obtain ⟨hi, hi0, hi1, hi2⟩ := HI.out
      go_wp2_with (at_builtin; go_must (refine wpList_append_has rfl (.tmp 14) (.tmp 18) 32 rfl w.heap.size 9 i0 _ 1 16 Tryd.underlying32 hi hi0 hi1 hi2 rfl (by decide) _ q (textRow (namesL q)) rfl ?own _ 1 [.string ⟨(nameL q).toArray⟩] rfl ?has ?one ?c3 ?c4 ?c5 ?_))
      case own => exact HO2.out.alloc _
      case has => rw [E.out]; exact row_lit (e := 9) w2 _ _ 1 (by simp) (by decide) rfl
      case one => intro u hu; simp at hu; subst hu; rfl
      case c3 => unfold maxLen; omega
      case c4 => omega
      case c5 => have := HB2.out.size; simp; omega
      intro v' w3 hown3 hgrow3
      have hne : ∀ g, u3.ownBlock = some g → w.heap.size ≤ g ∧ g < w2.heap.size := fun g hg => HO2.out.lt g hg
      have HB3 := Lib.hid ((HB2.out.alloc HB2.out.size _).grown hgrow3 (by have := HB2.out.size; simp; omega) (fun g hg => (hne g hg).1))
      have HO3 : Hid (w3.ownsRow w.heap.size 9 1 v' (q + 1) (textRow (namesL (q + 1)))) := Lib.hid (by rw [namesL_succ, textRow_append]; exact hown3)
      clear hown3 hgrow3 hne hi hi0 hi1 hi2
      go_wp2
      go_roundw
      case rel => exact ⟨q + 1, by go_num, by omega, HO3.out, HB3.out⟩
      case measure => simp [intOf]; omega
    · have hql : q = n := by omega
      subst hql
      have g3 : decide ((q : Int) < (q : Int)) = false := by simp
      have HO2 := Lib.hid (And.intro hown hbel)
      clear hown hbel
      go_wp2
      go_ret
      exact ⟨_, rfl, HO2.out.2, HO2.out.1⟩

set_option maxRecDepth 100000 in
set_option maxHeartbeats 4000000 in
/-- two rows of the same texts are the same -/
theorem texts_same (l : List (List UInt8)) (va vb : Value) (w : World) (ha : Has w 1 va l.length (textRow l)) (hb : Has w 1 vb l.length (textRow l)) (hl : l.length ≤ 1099511627776) :
    Calls Tryd.prog 22 #[va, vb] w fun e w' => e = .returned (.bool true) ∧ Below w.heap.size w w' := by
  have hln : ((l.length : Int) != (l.length : Int)) = false := by simp
  rcases ha.2 with ⟨rfl, ha0⟩ | ⟨ba, oa, ca, rfl, hna, hba, hca⟩
  · have h0 : l = [] := List.eq_nil_of_length_eq_zero ha0
    subst h0
    rcases hb.2 with ⟨rfl, hb0⟩ | ⟨bb, ob, cb, rfl, hnb, hbb, hcb⟩
    all_goals
      go_enter Tryd.func22, Tryd.ntmps22
      go_wp2_with fail
      go_loop [5] (fun i => i = .int .i64 0) (fun _ => 0)
      case atStart => exact rfl
      case round =>
        subst hrel
        go_wp2
        go_ret
        exact ⟨rfl, Below.refl _ _⟩
  · rcases hb.2 with ⟨rfl, hb0⟩ | ⟨bb, ob, cb, rfl, hnb, hbb, hcb⟩
    · have h0 : l = [] := List.eq_nil_of_length_eq_zero hb0
      subst h0
      go_enter Tryd.func22, Tryd.ntmps22
      go_wp2_with fail
      go_loop [5] (fun i => i = .int .i64 0) (fun _ => 0)
      case atStart => exact rfl
      case round =>
        subst hrel
        go_wp2
        go_ret
        exact ⟨rfl, Below.refl _ _⟩
    · have HA := Lib.hid hca
      have HB := Lib.hid hcb
      clear hca hcb ha hb
      go_enter Tryd.func22, Tryd.ntmps22
      go_wp2_with fail
      go_loopw [5] (fun i wr => ∃ (k n : Nat), k ≤ l.length ∧ i = .int .i64 k ∧ wr = w.drewN n) (fun i _ => l.length - (intOf i).toNat)
      case atStart => exact ⟨0, 0, Nat.zero_le _, rfl, rfl⟩
      case round =>
        obtain ⟨k, n, hk, rfl, rfl⟩ := hrel
        by_cases hlt : k < l.length
        · obtain ⟨t, ht⟩ : ∃ t, l[k]? = some t := ⟨l[k], List.getElem?_eq_getElem hlt⟩
          have hat : (textRow l)[k]? = some (.string ⟨t.toArray⟩) := by simp [textRow, ht]
          have a0 := (HA.out k (by omega)).trans hat
          have b0 := (HB.out k (by omega)).trans hat
          clear hat ht
          go_wp2_with fail
          refine wp_region_quiet_lit (by kernel_rfl) (by kernel_rfl) ?_
          repeat (quiet_step (fail))
          refine wpQuiet_nil ?_
          intro _ hw'
          obtain ⟨nq, hw''⟩ := hw'
          subst hw''
          go_wp2
          go_roundw
          case rel => exact ⟨k + 1, n + nq, by omega, by go_num, rfl⟩
          case measure => simp [intOf]; omega
        · go_wp2
          go_ret
          exact ⟨rfl, ⟨(Below.refl w.heap.size w).os, (Below.refl w.heap.size w).tape, (Below.refl w.heap.size w).output, (Below.refl w.heap.size w).size, (Below.refl w.heap.size w).block⟩⟩
end Go.Proofs.YtefjgpahgffmfaaDoor
