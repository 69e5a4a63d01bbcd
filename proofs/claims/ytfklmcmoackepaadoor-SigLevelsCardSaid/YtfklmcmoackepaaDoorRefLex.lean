/- Walk of transhipref01.Lex. -/
import Derived.Test.YtfklmcmoackepaaDoorRefLexP
namespace Go.Proofs.YtfklmcmoackepaaDoor
open Go.RowKit

theorem Tryd.infoRTok : (Tryd.prog.info? 72).map (fun i => (i.zero, i.size, i.bytes)) = some (some (.agg #[.int .i64 0, .string ByteArray.empty, .int .i64 0]), 3, 32) := by kernel_rfl

def faultI : Option Nat → Int
  | none => -1
  | some p => p

/-- what transhipref01.Lex answers -/
def RLexOut (s : ByteArray) (w : World) (e : Ending) (w' : World) : Prop :=
  ∃ (v : Value) (toks : List Tok) (fault : Option Nat), lexL s.data.toList = (toks, fault) ∧ e = .returned (.tuple #[v, .int .i64 (faultI fault)]) ∧ w'.ownsRow w.heap.size 72 3 v toks.length (toksCells toks) ∧ Below w.heap.size w w'

theorem num_ok {s : ByteArray} {k j : Nat} (h : k < s.size) (hj : j = wordEnd isDig s k) (b : Bool)
    (hb : ((getN (s.extract k j).data.toList).isSome && !((s.data.toList.drop j).head?.any fun d => isLetter d.toNat)) = b) :
    ((getR (s[k] :: (s.data.toList.drop (k + 1)).takeWhile isDig)).isSome && !(((s.data.toList.drop (k + 1)).dropWhile isDig).head?.any fun d => isLetter d.toNat)) = b := by
  have he := extract_word (p := isDig) h hj
  have hdr : s.data.toList.drop j = (s.data.toList.drop (k + 1)).dropWhile isDig := by
    rw [hj, wordEnd, ← drop_takeWhile, List.drop_drop]
  rw [he, hdr, getN_eq_getR] at hb
  exact hb

theorem refget_some (s : ByteArray) (w : World) (g : Nat) (hg : getN s.data.toList = some g) (hs : s.size ≤ maxLen) :
    Calls Tryd.prog 35 #[.string s] w fun e w' => e = .returned (.tuple #[.int .i64 g, .bool true]) ∧ w = w' := by
  have := refget_any s w hs
  unfold getRVal at this
  rw [← getN_eq_getR, hg] at this
  exact this
theorem refget_none (s : ByteArray) (w : World) (hg : getN s.data.toList = none) (hs : s.size ≤ maxLen) :
    Calls Tryd.prog 35 #[.string s] w fun e w' => e = .returned (.tuple #[.int .i64 0, .bool false]) ∧ w = w' := by
  have := refget_any s w hs
  unfold getRVal at this
  rw [← getN_eq_getR, hg] at this
  exact this

set_option maxHeartbeats 4000000 in
set_option maxRecDepth 100000 in
theorem rlex_any (s : ByteArray) (w : World) (hs : s.size ≤ 1099511627776) :
    Calls Tryd.prog 20 #[.string s] w (RLexOut s w) := by
  have hsm : s.size ≤ 9223372036854775807 := by omega
  have HSM : Hid (s.size ≤ maxLen) := Lib.hid (by unfold maxLen; omega)
  go_enter Tryd.func20, Tryd.ntmps20
  go_wp2_with fail
  go_loopw [4, 5] (fun v i wr => ∃ (done : List Tok) (k : Nat), i = .int .i64 k ∧ RefSt false s done k ∧ wr.ownsRow w.heap.size 72 3 v done.length (toksCells done) ∧ Below w.heap.size w wr) (fun _ i _ => s.size - (intOf i).toNat)
  case atStart => exact ⟨[], 0, rfl, RefSt.start s, World.ownsRow_nil _ _ _ _, Below.refl _ _⟩
  case round =>
    obtain ⟨done, k, rfl, hst, hown, hbel⟩ := hrel
    have hk := hst.1
    have hdl := hst.2.1
    obtain ⟨i0, hi, hi0, hi1, hi2⟩ := info_parts Tryd.infoRTok
    by_cases hlt : k < s.size
    · by_cases hc : s[k].toNat = 32 ∨ s[k].toNat = 9 ∨ s[k].toNat = 10
      · have hnx := hst.blank hlt hc
        clear hi hi0 hi1 hi2 hst
        have hcc : (((s[k].toNat : Int) == 32) = true) ∨ (((s[k].toNat : Int) == 32) = false ∧ ((s[k].toNat : Int) == 9) = true) ∨ (((s[k].toNat : Int) == 32) = false ∧ ((s[k].toNat : Int) == 9) = false ∧ ((s[k].toNat : Int) == 10) = true) := by
          simp; omega
        clear hc
        rcases hcc with b32 | ⟨b32, b9⟩ | ⟨b32, b9, b10⟩
        all_goals
          go_wp2
          go_roundw
          case rel => exact ⟨done, k + 1, by go_num, hnx, hown, hbel⟩
          case measure => simp [intOf]; omega
      have b32 : ((s[k].toNat : Int) == 32) = false := by simp; omega
      have b9 : ((s[k].toNat : Int) == 9) = false := by simp; omega
      have b10 : ((s[k].toNat : Int) == 10) = false := by simp; omega
      by_cases hc59 : s[k].toNat = 59
      · have b59 : ((s[k].toNat : Int) == 59) = true := by simp; omega
        have hbg := hst.begin hlt hc59
        clear hi hi0 hi1 hi2 hst hc
        have HC59 := Lib.hid hc59
        clear hc59
        go_wp2_with fail
        obtain ⟨wo, rfl⟩ : ∃ wo : World, wo = wr := ⟨_, rfl⟩
        go_loop [5] (fun i => ∃ j : Nat, k ≤ j ∧ i = .int .i64 j ∧ RefSt true s done j) (fun i => s.size - (intOf i).toNat)
        case atStart => exact ⟨k, Nat.le_refl _, rfl, hbg⟩
        case round =>
          obtain ⟨j, hkj, rfl, hrs⟩ := hrel
          have hj := hrs.1
          by_cases hjt : j < s.size
          · by_cases h10 : s[j].toNat = 10
            · have hne : j ≠ k := by intro e; subst e; have := HC59.out; omega
              have h10' : ((s[j].toNat : Int) != 10) = false := by simp [h10]
              have hln := hrs.line hjt h10
              clear h10
              go_wp2
              go_roundw
              case rel => exact ⟨done, j, rfl, hln, hown, hbel⟩
              case measure => simp [intOf]; omega
            · have h10' : ((s[j].toNat : Int) != 10) = true := by simp; omega
              have hnt := hrs.note hjt h10
              clear h10
              go_wp2
              go_round
              case rel => exact ⟨j + 1, by omega, by go_num, hnt⟩
              case measure => simp [intOf]; omega
          · have hjz : j = s.size := by omega
            subst hjz
            have hln := hrs.atEnd
            go_wp2
            go_roundw
            case rel => exact ⟨done, s.size, rfl, hln, hown, hbel⟩
            case measure => simp [intOf]; omega
      have b59 : ((s[k].toNat : Int) == 59) = false := by simp; omega
      by_cases hc40 : s[k].toNat = 40
      · have b40 : ((s[k].toNat : Int) == 40) = true := by simp; omega
        have hc : s[k].toNat = 40 := hc40
        have ho : oneL (s.data.toList.drop k) = (1, [40], true) := by rw [drop_cons s k hlt]; simp [oneL, hc]
        have hnx := RefSt.next (hst.tok hlt (by omega) (by omega)) hlt (by rw [ho])
        rw [ho] at hnx
        have hnx : RefSt false s (done ++ [⟨1, [40], k⟩]) (k + 1) := hnx
        clear ho hst
        go_wp2_with (at_builtin; go_must (refine wpList_append_has rfl (.tmp 51) (.tmp 54) 55 rfl w.heap.size 72 i0 _ 3 32 Tryd.underlying55 hi hi0 hi1 hi2 rfl (by decide) _ done.length (toksCells done) rfl ?own0 _ 1 (tokCells ⟨1, [40], k⟩) rfl ?has0 ?one0 ?c30 ?c40 ?c50 ?_))
        case own0 => exact hown.alloc _
        case has0 => exact has_lit (e := 72) wr _ _ 1 (by simp) (by decide) rfl
        case one0 => exact toksCells_one [⟨1, [40], k⟩]
        case c30 => unfold maxLen; omega
        case c40 => omega
        case c50 => have := hbel.size; simp; omega
        intro v' w3 hown3 hgrow3
        have hne : ∀ g, u4.ownBlock = some g → w.heap.size ≤ g ∧ g < wr.heap.size := fun g hg => hown.lt g hg
        have hb3 : Below w.heap.size w w3 := (hbel.alloc hbel.size _).grown hgrow3 (by have := hbel.size; simp; omega) (fun g hg => (hne g hg).1)
        have hown4 : w3.ownsRow w.heap.size 72 3 v' (done ++ [(⟨1, [40], k⟩ : Tok)]).length (toksCells (done ++ [⟨1, [40], k⟩])) := by
          rw [toksCells_append, List.length_append]; exact hown3
        clear hown3 hgrow3 hne hown hi hi0 hi1 hi2
        go_wp2
        go_roundw
        case rel => exact ⟨done ++ [⟨1, [40], k⟩], k + 1, by go_num, hnx, hown4, hb3⟩
        case measure => simp [intOf]; omega
      have b40 : ((s[k].toNat : Int) == 40) = false := by simp; omega
      by_cases hc41 : s[k].toNat = 41
      · have b41 : ((s[k].toNat : Int) == 41) = true := by simp; omega
        have hc2 : s[k].toNat = 41 := hc41
        have ho : oneL (s.data.toList.drop k) = (2, [41], true) := by rw [drop_cons s k hlt]; simp [oneL, hc2]
        have hnx := RefSt.next (hst.tok hlt (by omega) (by omega)) hlt (by rw [ho])
        rw [ho] at hnx
        have hnx : RefSt false s (done ++ [⟨2, [41], k⟩]) (k + 1) := hnx
        clear ho hst
        go_wp2_with (at_builtin; go_must (refine wpList_append_has rfl (.tmp 61) (.tmp 64) 55 rfl w.heap.size 72 i0 _ 3 32 Tryd.underlying55 hi hi0 hi1 hi2 rfl (by decide) _ done.length (toksCells done) rfl ?own1 _ 1 (tokCells ⟨2, [41], k⟩) rfl ?has1 ?one1 ?c31 ?c41 ?c51 ?_))
        case own1 => exact hown.alloc _
        case has1 => exact has_lit (e := 72) wr _ _ 1 (by simp) (by decide) rfl
        case one1 => exact toksCells_one [⟨2, [41], k⟩]
        case c31 => unfold maxLen; omega
        case c41 => omega
        case c51 => have := hbel.size; simp; omega
        intro v' w3 hown3 hgrow3
        have hne : ∀ g, u4.ownBlock = some g → w.heap.size ≤ g ∧ g < wr.heap.size := fun g hg => hown.lt g hg
        have hb3 : Below w.heap.size w w3 := (hbel.alloc hbel.size _).grown hgrow3 (by have := hbel.size; simp; omega) (fun g hg => (hne g hg).1)
        have hown4 : w3.ownsRow w.heap.size 72 3 v' (done ++ [(⟨2, [41], k⟩ : Tok)]).length (toksCells (done ++ [⟨2, [41], k⟩])) := by
          rw [toksCells_append, List.length_append]; exact hown3
        clear hown3 hgrow3 hne hown hi hi0 hi1 hi2
        go_wp2
        go_roundw
        case rel => exact ⟨done ++ [⟨2, [41], k⟩], k + 1, by go_num, hnx, hown4, hb3⟩
        case measure => simp [intOf]; omega
      have b41 : ((s[k].toNat : Int) == 41) = false := by simp; omega
      have hls := hst.tok hlt hc hc59
      have hoc := drop_cons s k hlt
      have HOC := Lib.hid hoc
      clear hoc hst
      cases hl : isLetter s[k].toNat with
      | true =>
        have HO : Hid (oneL (s.data.toList.drop k) = (3, s[k] :: (s.data.toList.drop (k + 1)).takeWhile isAlnum, decide (((s.data.toList.drop (k + 1)).takeWhile isAlnum).length + 1 ≤ 20))) := Lib.hid (by
          rw [HOC.out]; simp only [oneL, if_neg hc40, if_neg hc41, hl, if_true])
        go_wp2_with fail
        refine (rletter_any _ _).mono ?_
        rintro e w1 ⟨rfl, rfl⟩
        go_wp2_with fail
        obtain ⟨wo, rfl⟩ : ∃ wo : World, wo = wr := ⟨_, rfl⟩
        go_loop [7] (fun i => ∃ j : Nat, k ≤ j ∧ j ≤ s.size ∧ i = .int .i64 j ∧ j + ((s.data.toList.drop j).takeWhile isAlnum).length = wordEnd isAlnum s k) (fun i => s.size - (intOf i).toNat)
        case atStart => exact ⟨k, by omega, by omega, rfl, by rw [takeWhile_step (p := isAlnum) hlt (by simp [isAlnum, hl])]; unfold wordEnd; omega⟩
        case round =>
          obtain ⟨j, hkj, hj, rfl, hrest⟩ := hrel
          have HR := Lib.hid hrest
          clear hrest
          by_cases hjt : j < s.size
          · by_cases ha : isAlnum s[j] = true
            · have hst2 := takeWhile_step hjt ha
              have HST := Lib.hid hst2
              clear hst2
              by_cases hl2 : isLetter s[j].toNat = true
              · skip
                go_wp2_with fail
                refine (rletter_any _ _).mono ?_
                rintro e w1 ⟨rfl, rfl⟩
                go_wp2_with fail
                go_round
                case rel => exact ⟨j + 1, by omega, by omega, by go_num, by have h1 := HR.out; have h2 := HST.out; omega⟩
                case measure => simp [intOf]; omega
              · have hl3 : isLetter s[j].toNat = false := by simpa using hl2
                have hd3 : isDigit s[j].toNat = true := by simpa [isAlnum, hl3] using ha
                clear hl2
                go_wp2_with fail
                refine (rletter_any _ _).mono ?_
                rintro e w1 ⟨rfl, rfl⟩
                go_wp2_with fail
                refine (rdigit_any _ _).mono ?_
                rintro e w1 ⟨rfl, rfl⟩
                go_wp2_with fail
                go_round
                case rel => exact ⟨j + 1, by omega, by omega, by go_num, by have h1 := HR.out; have h2 := HST.out; omega⟩
                case measure => simp [intOf]; omega
            · have ha0 : isAlnum s[j] = false := by simpa using ha
              have hl3 : isLetter s[j].toNat = false := by simp [isAlnum] at ha0; exact ha0.1
              have hd3 : isDigit s[j].toNat = false := by simp [isAlnum] at ha0; exact ha0.2
              have HJ : Hid (j = wordEnd isAlnum s k) := Lib.hid (by have := takeWhile_stop hjt ha0; have := HR.out; omega)
              have hkj2 : k < j := by have := HJ.out; unfold wordEnd at this; omega
              clear ha ha0
              go_wp2_with fail
              refine (rletter_any _ _).mono ?_
              rintro e w1 ⟨rfl, rfl⟩
              go_wp2_with fail
              refine (rdigit_any _ _).mono ?_
              rintro e w1 ⟨rfl, rfl⟩
              by_cases h20 : 20 < j - k
              · have h20' : (20 : Int) < (j : Int) - (k : Int) := by omega
                have HBAD : Hid (decide (((s.data.toList.drop (k + 1)).takeWhile isAlnum).length + 1 ≤ 20) = false) := Lib.hid (by have := HJ.out; unfold wordEnd at this; simp; omega)
                clear hi hi0 hi1 hi2
                go_wp2
                go_ret2
                exact ⟨_, done, some k, hls.bad hlt (by rw [HO.out]; exact HBAD.out), rfl, hown, hbel⟩
              · have h20' : ¬ (20 : Int) < (j : Int) - (k : Int) := by omega
                have HOK : Hid (decide (((s.data.toList.drop (k + 1)).takeWhile isAlnum).length + 1 ≤ 20) = true) := Lib.hid (by have := HJ.out; unfold wordEnd at this; simp; omega)
                go_wp2_with (at_builtin; go_must (refine wpList_append_has rfl (.tmp 95) (.tmp 102) 55 rfl w.heap.size 72 i0 _ 3 32 Tryd.underlying55 hi hi0 hi1 hi2 rfl (by decide) _ done.length (toksCells done) rfl ?own10 _ 1 [.int .i64 3, .string (s.extract k j), .int .i64 k] rfl ?has10 ?one10 ?c310 ?c410 ?c510 ?_))
                case own10 => exact hown.alloc _
                case has10 => exact has_lit (e := 72) wo _ _ 1 (by simp) (by decide) rfl
                case one10 => first | exact ⟨rfl, rfl, rfl⟩ | (intro u hu; simp at hu; rcases hu with rfl | rfl | rfl <;> rfl)
                case c310 => unfold maxLen; omega
                case c410 => omega
                case c510 => have := hbel.size; simp; omega
                intro v' w3 hown3 hgrow3
                have hne : ∀ g, u4.ownBlock = some g → w.heap.size ≤ g ∧ g < wo.heap.size := fun g hg => hown.lt g hg
                have hb3 : Below w.heap.size w w3 := (hbel.alloc hbel.size _).grown hgrow3 (by have := hbel.size; simp; omega) (fun g hg => (hne g hg).1)
                have hnx := RefSt.next hls hlt (by rw [HO.out]; exact HOK.out)
                rw [HO.out] at hnx
                have hnx2 : RefSt false s (done ++ [⟨3, s[k] :: (s.data.toList.drop (k + 1)).takeWhile isAlnum, k⟩]) j := by
                  have hj2 := HJ.out
                  unfold wordEnd at hj2
                  have e : k + (s[k] :: (s.data.toList.drop (k + 1)).takeWhile isAlnum).length = j := by rw [List.length_cons]; omega
                  rw [← e]
                  exact hnx
                have hown4 : w3.ownsRow w.heap.size 72 3 v' (done ++ [(⟨3, s[k] :: (s.data.toList.drop (k + 1)).takeWhile isAlnum, k⟩ : Tok)]).length (toksCells (done ++ [⟨3, s[k] :: (s.data.toList.drop (k + 1)).takeWhile isAlnum, k⟩])) := by
                  rw [toksCells_append, List.length_append]
                  rw [extract_word (p := isAlnum) hlt HJ.out] at hown3
                  exact hown3
                clear hown3 hgrow3 hne hown hi hi0 hi1 hi2 hnx
                go_wp2
                go_roundw
                case rel => exact ⟨_, j, rfl, hnx2, hown4, hb3⟩
                case measure => simp [intOf]; omega
          · have HJ : Hid (j = wordEnd isAlnum s k) := Lib.hid (by
              have h1 : j = s.size := by omega
              have h2 := HR.out
              subst h1
              have h3 := takeWhile_end (p := isAlnum) (s := s)
              omega)
            have hkj2 : k < j := by have := HJ.out; unfold wordEnd at this; omega
            by_cases h20 : 20 < j - k
            · have h20' : (20 : Int) < (j : Int) - (k : Int) := by omega
              have HBAD : Hid (decide (((s.data.toList.drop (k + 1)).takeWhile isAlnum).length + 1 ≤ 20) = false) := Lib.hid (by have := HJ.out; unfold wordEnd at this; simp; omega)
              clear hi hi0 hi1 hi2
              go_wp2
              go_ret2
              exact ⟨_, done, some k, hls.bad hlt (by rw [HO.out]; exact HBAD.out), rfl, hown, hbel⟩
            · have h20' : ¬ (20 : Int) < (j : Int) - (k : Int) := by omega
              have HOK : Hid (decide (((s.data.toList.drop (k + 1)).takeWhile isAlnum).length + 1 ≤ 20) = true) := Lib.hid (by have := HJ.out; unfold wordEnd at this; simp; omega)
              go_wp2_with (at_builtin; go_must (refine wpList_append_has rfl (.tmp 95) (.tmp 102) 55 rfl w.heap.size 72 i0 _ 3 32 Tryd.underlying55 hi hi0 hi1 hi2 rfl (by decide) _ done.length (toksCells done) rfl ?own11 _ 1 [.int .i64 3, .string (s.extract k j), .int .i64 k] rfl ?has11 ?one11 ?c311 ?c411 ?c511 ?_))
              case own11 => exact hown.alloc _
              case has11 => exact has_lit (e := 72) wo _ _ 1 (by simp) (by decide) rfl
              case one11 => first | exact ⟨rfl, rfl, rfl⟩ | (intro u hu; simp at hu; rcases hu with rfl | rfl | rfl <;> rfl)
              case c311 => unfold maxLen; omega
              case c411 => omega
              case c511 => have := hbel.size; simp; omega
              intro v' w3 hown3 hgrow3
              have hne : ∀ g, u4.ownBlock = some g → w.heap.size ≤ g ∧ g < wo.heap.size := fun g hg => hown.lt g hg
              have hb3 : Below w.heap.size w w3 := (hbel.alloc hbel.size _).grown hgrow3 (by have := hbel.size; simp; omega) (fun g hg => (hne g hg).1)
              have hnx := RefSt.next hls hlt (by rw [HO.out]; exact HOK.out)
              rw [HO.out] at hnx
              have hnx2 : RefSt false s (done ++ [⟨3, s[k] :: (s.data.toList.drop (k + 1)).takeWhile isAlnum, k⟩]) j := by
                have hj2 := HJ.out
                unfold wordEnd at hj2
                have e : k + (s[k] :: (s.data.toList.drop (k + 1)).takeWhile isAlnum).length = j := by rw [List.length_cons]; omega
                rw [← e]
                exact hnx
              have hown4 : w3.ownsRow w.heap.size 72 3 v' (done ++ [(⟨3, s[k] :: (s.data.toList.drop (k + 1)).takeWhile isAlnum, k⟩ : Tok)]).length (toksCells (done ++ [⟨3, s[k] :: (s.data.toList.drop (k + 1)).takeWhile isAlnum, k⟩])) := by
                rw [toksCells_append, List.length_append]
                rw [extract_word (p := isAlnum) hlt HJ.out] at hown3
                exact hown3
              clear hown3 hgrow3 hne hown hi hi0 hi1 hi2 hnx
              go_wp2
              go_roundw
              case rel => exact ⟨_, j, rfl, hnx2, hown4, hb3⟩
              case measure => simp [intOf]; omega
      | false =>
        cases hd : isDigit s[k].toNat with
        | true =>
          have HO : Hid (oneL (s.data.toList.drop k) = (4, s[k] :: (s.data.toList.drop (k + 1)).takeWhile isDig, ((getR (s[k] :: (s.data.toList.drop (k + 1)).takeWhile isDig)).isSome && !(((s.data.toList.drop (k + 1)).dropWhile isDig).head?.any fun d => isLetter d.toNat)))) := Lib.hid (by
            rw [HOC.out]; simp only [oneL, if_neg hc40, if_neg hc41, hl, hd]; rfl)
          go_wp2_with fail
          refine (rletter_any _ _).mono ?_
          rintro e w1 ⟨rfl, rfl⟩
          go_wp2_with fail
          refine (rdigit_any _ _).mono ?_
          rintro e w1 ⟨rfl, rfl⟩
          go_wp2_with fail
          obtain ⟨wo, rfl⟩ : ∃ wo : World, wo = wr := ⟨_, rfl⟩
          go_loop [7] (fun i => ∃ j : Nat, k ≤ j ∧ j ≤ s.size ∧ i = .int .i64 j ∧ j + ((s.data.toList.drop j).takeWhile isDig).length = wordEnd isDig s k) (fun i => s.size - (intOf i).toNat)
          case atStart => exact ⟨k, by omega, by omega, rfl, by rw [takeWhile_step (p := isDig) hlt hd]; unfold wordEnd; omega⟩
          case round =>
            obtain ⟨j, hkj, hj, rfl, hrest⟩ := hrel
            have HR := Lib.hid hrest
            clear hrest
            by_cases hjt : j < s.size
            · by_cases ha : isDigit s[j].toNat = true
              · have hst2 := takeWhile_step (p := isDig) hjt ha
                have HST := Lib.hid hst2
                clear hst2
                go_wp2_with fail
                refine (rdigit_any _ _).mono ?_
                rintro e w1 ⟨rfl, rfl⟩
                go_wp2_with fail
                go_round
                case rel => exact ⟨j + 1, by omega, by omega, by go_num, by have h1 := HR.out; have h2 := HST.out; omega⟩
                case measure => simp [intOf]; omega
              · have ha0 : isDigit s[j].toNat = false := by simpa using ha
                have HJ : Hid (j = wordEnd isDig s k) := Lib.hid (by have := takeWhile_stop (p := isDig) hjt ha0; have := HR.out; omega)
                have hkj2 : k < j := by have := HJ.out; unfold wordEnd at this; omega
                have hkj3 : k ≤ j := by omega
                clear ha
                go_wp2_with fail
                refine (rdigit_any _ _).mono ?_
                rintro e w1 ⟨rfl, rfl⟩
                go_wp2_with fail
                cases hgn : getN (s.extract k j).data.toList with
                | none =>
                  refine (refget_none _ _ hgn (by unfold maxLen; simp; omega)).mono ?_
                  rintro e w1 ⟨rfl, rfl⟩
                  have HBAD : Hid (((getR (s[k] :: (s.data.toList.drop (k + 1)).takeWhile isDig)).isSome && !(((s.data.toList.drop (k + 1)).dropWhile isDig).head?.any fun d => isLetter d.toNat)) = false) := Lib.hid (num_ok hlt HJ.out _ (by rw [hgn]; rfl))
                  clear hgn hi hi0 hi1 hi2
                  go_wp2
                  go_ret2
                  exact ⟨_, done, some k, hls.bad hlt (by rw [HO.out]; exact HBAD.out), rfl, hown, hbel⟩
                | some g =>
                  refine (refget_some _ _ g hgn (by unfold maxLen; simp; omega)).mono ?_
                  rintro e w1 ⟨rfl, rfl⟩
                  cases hl2 : isLetter s[j].toNat with
                  | true =>
                    have HBAD : Hid (((getR (s[k] :: (s.data.toList.drop (k + 1)).takeWhile isDig)).isSome && !(((s.data.toList.drop (k + 1)).dropWhile isDig).head?.any fun d => isLetter d.toNat)) = false) := Lib.hid (num_ok hlt HJ.out _ (by rw [hgn]; simp [head_at hjt, hl2]))
                    clear hgn hi hi0 hi1 hi2
                    go_wp2_with fail
                    refine (rletter_any _ _).mono ?_
                    rintro e w1 ⟨rfl, rfl⟩
                    go_wp2
                    go_ret2
                    exact ⟨_, done, some k, hls.bad hlt (by rw [HO.out]; exact HBAD.out), rfl, hown, hbel⟩
                  | false =>
                    have HOK : Hid (((getR (s[k] :: (s.data.toList.drop (k + 1)).takeWhile isDig)).isSome && !(((s.data.toList.drop (k + 1)).dropWhile isDig).head?.any fun d => isLetter d.toNat)) = true) := Lib.hid (num_ok hlt HJ.out _ (by rw [hgn]; simp [head_at hjt, hl2]))
                    clear hgn
                    go_wp2_with fail
                    refine (rletter_any _ _).mono ?_
                    rintro e w1 ⟨rfl, rfl⟩
                    go_wp2_with (at_builtin; go_must (refine wpList_append_has rfl (.tmp 143) (.tmp 150) 55 rfl w.heap.size 72 i0 _ 3 32 Tryd.underlying55 hi hi0 hi1 hi2 rfl (by decide) _ done.length (toksCells done) rfl ?own12 _ 1 [.int .i64 4, .string (s.extract k j), .int .i64 k] rfl ?has12 ?one12 ?c312 ?c412 ?c512 ?_))
                    case own12 => exact hown.alloc _
                    case has12 => exact has_lit (e := 72) wo _ _ 1 (by simp) (by decide) rfl
                    case one12 => first | exact ⟨rfl, rfl, rfl⟩ | (intro u hu; simp at hu; rcases hu with rfl | rfl | rfl <;> rfl)
                    case c312 => unfold maxLen; omega
                    case c412 => omega
                    case c512 => have := hbel.size; simp; omega
                    intro v' w3 hown3 hgrow3
                    have hne : ∀ g, u4.ownBlock = some g → w.heap.size ≤ g ∧ g < wo.heap.size := fun g hg => hown.lt g hg
                    have hb3 : Below w.heap.size w w3 := (hbel.alloc hbel.size _).grown hgrow3 (by have := hbel.size; simp; omega) (fun g hg => (hne g hg).1)
                    have hnx := RefSt.next hls hlt (by rw [HO.out]; exact HOK.out)
                    rw [HO.out] at hnx
                    have hnx2 : RefSt false s (done ++ [⟨4, s[k] :: (s.data.toList.drop (k + 1)).takeWhile isDig, k⟩]) j := by
                      have hj2 := HJ.out
                      unfold wordEnd at hj2
                      have e : k + (s[k] :: (s.data.toList.drop (k + 1)).takeWhile isDig).length = j := by rw [List.length_cons]; omega
                      rw [← e]
                      exact hnx
                    have hown4 : w3.ownsRow w.heap.size 72 3 v' (done ++ [(⟨4, s[k] :: (s.data.toList.drop (k + 1)).takeWhile isDig, k⟩ : Tok)]).length (toksCells (done ++ [⟨4, s[k] :: (s.data.toList.drop (k + 1)).takeWhile isDig, k⟩])) := by
                      rw [toksCells_append, List.length_append]
                      rw [extract_word (p := isDig) hlt HJ.out] at hown3
                      exact hown3
                    clear hown3 hgrow3 hne hown hi hi0 hi1 hi2 hnx
                    go_wp2
                    go_roundw
                    case rel => exact ⟨_, j, rfl, hnx2, hown4, hb3⟩
                    case measure => simp [intOf]; omega
            · have hjz : j = s.size := by omega
              have HJ : Hid (j = wordEnd isDig s k) := Lib.hid (by
                have h2 := HR.out
                have h3 := takeWhile_end (p := isDig) (s := s)
                rw [← hjz] at h3
                omega)
              have HJZ := Lib.hid hjz
              clear hjz
              have hkj2 : k < j := by have := HJ.out; unfold wordEnd at this; omega
              have hkj3 : k ≤ j := by omega
              go_wp2_with fail
              cases hgn : getN (s.extract k j).data.toList with
              | none =>
                refine (refget_none _ _ hgn (by unfold maxLen; simp; omega)).mono ?_
                rintro e w1 ⟨rfl, rfl⟩
                have HBAD : Hid (((getR (s[k] :: (s.data.toList.drop (k + 1)).takeWhile isDig)).isSome && !(((s.data.toList.drop (k + 1)).dropWhile isDig).head?.any fun d => isLetter d.toNat)) = false) := Lib.hid (num_ok hlt HJ.out _ (by rw [hgn]; rfl))
                clear hgn hi hi0 hi1 hi2
                go_wp2
                go_ret2
                exact ⟨_, done, some k, hls.bad hlt (by rw [HO.out]; exact HBAD.out), rfl, hown, hbel⟩
              | some g =>
                refine (refget_some _ _ g hgn (by unfold maxLen; simp; omega)).mono ?_
                rintro e w1 ⟨rfl, rfl⟩
                have HOK : Hid (((getR (s[k] :: (s.data.toList.drop (k + 1)).takeWhile isDig)).isSome && !(((s.data.toList.drop (k + 1)).dropWhile isDig).head?.any fun d => isLetter d.toNat)) = true) := Lib.hid (num_ok hlt HJ.out _ (by rw [hgn]; simp [head_end HJZ.out]))
                clear hgn
                go_wp2_with (at_builtin; go_must (refine wpList_append_has rfl (.tmp 143) (.tmp 150) 55 rfl w.heap.size 72 i0 _ 3 32 Tryd.underlying55 hi hi0 hi1 hi2 rfl (by decide) _ done.length (toksCells done) rfl ?own13 _ 1 [.int .i64 4, .string (s.extract k j), .int .i64 k] rfl ?has13 ?one13 ?c313 ?c413 ?c513 ?_))
                case own13 => exact hown.alloc _
                case has13 => exact has_lit (e := 72) wo _ _ 1 (by simp) (by decide) rfl
                case one13 => first | exact ⟨rfl, rfl, rfl⟩ | (intro u hu; simp at hu; rcases hu with rfl | rfl | rfl <;> rfl)
                case c313 => unfold maxLen; omega
                case c413 => omega
                case c513 => have := hbel.size; simp; omega
                intro v' w3 hown3 hgrow3
                have hne : ∀ g, u4.ownBlock = some g → w.heap.size ≤ g ∧ g < wo.heap.size := fun g hg => hown.lt g hg
                have hb3 : Below w.heap.size w w3 := (hbel.alloc hbel.size _).grown hgrow3 (by have := hbel.size; simp; omega) (fun g hg => (hne g hg).1)
                have hnx := RefSt.next hls hlt (by rw [HO.out]; exact HOK.out)
                rw [HO.out] at hnx
                have hnx2 : RefSt false s (done ++ [⟨4, s[k] :: (s.data.toList.drop (k + 1)).takeWhile isDig, k⟩]) j := by
                  have hj2 := HJ.out
                  unfold wordEnd at hj2
                  have e : k + (s[k] :: (s.data.toList.drop (k + 1)).takeWhile isDig).length = j := by rw [List.length_cons]; omega
                  rw [← e]
                  exact hnx
                have hown4 : w3.ownsRow w.heap.size 72 3 v' (done ++ [(⟨4, s[k] :: (s.data.toList.drop (k + 1)).takeWhile isDig, k⟩ : Tok)]).length (toksCells (done ++ [⟨4, s[k] :: (s.data.toList.drop (k + 1)).takeWhile isDig, k⟩])) := by
                  rw [toksCells_append, List.length_append]
                  rw [extract_word (p := isDig) hlt HJ.out] at hown3
                  exact hown3
                clear hown3 hgrow3 hne hown hi hi0 hi1 hi2 hnx
                go_wp2
                go_roundw
                case rel => exact ⟨_, j, rfl, hnx2, hown4, hb3⟩
                case measure => simp [intOf]; omega
        | false =>
          have HO : Hid (oneL (s.data.toList.drop k) = (0, [], false)) := Lib.hid (by
            rw [HOC.out]; simp [oneL, hc40, hc41, hl, hd])
          have HBAD : Hid (false = false) := Lib.hid rfl
          clear hi hi0 hi1 hi2
          go_wp2_with fail
          refine (rletter_any _ _).mono ?_
          rintro e w1 ⟨rfl, rfl⟩
          go_wp2_with fail
          refine (rdigit_any _ _).mono ?_
          rintro e w1 ⟨rfl, rfl⟩
          go_wp2
          go_ret2
          exact ⟨_, done, some k, hls.bad hlt (by rw [HO.out]), rfl, hown, hbel⟩
    · go_wp2
      go_ret2
      have hk2 : k = s.size := by omega
      subst hk2
      exact ⟨_, done, none, hst.done, rfl, hown, hbel⟩
end Go.Proofs.YtfklmcmoackepaaDoor
