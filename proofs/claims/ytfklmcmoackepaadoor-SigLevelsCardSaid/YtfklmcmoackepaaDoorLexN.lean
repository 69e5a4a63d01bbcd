/- Walk of lex.one at a number. -/
import Derived.Test.YtfklmcmoackepaaDoorLexC
namespace Go.Proofs.YtfklmcmoackepaaDoor
open Go.RowKit

set_option maxHeartbeats 4000000 in
theorem one_num (s : ByteArray) (k : Nat) (w : World) (hs : s.size ≤ maxLen) (ht : Tab w) (h : k < s.size) (h40 : s[k].toNat ≠ 40) (h41 : s[k].toNat ≠ 41) (hl : isLetter s[k].toNat = false) (hd : isDigit s[k].toNat = true) :
    Calls Tryd.prog 30 #[.string s, .int .i64 k] w fun e w' => e = .returned (oneV (oneL (s.data.toList.drop k)) k) ∧ Below w.heap.size w w' := by
  have HT := Lib.hid ht
  clear ht
  have HSM := Lib.hid hs
  unfold maxLen at hs
  have HO := Lib.hid (oneL_at h)
  have h0 : ((s[k].toNat : Int) == 40) = false := by simp; omega
  have h1 : ((s[k].toNat : Int) == 41) = false := by simp; omega
  go_enter Tryd.func30, Tryd.ntmps30
  go_wp2_with fail
  refine (letter_any _ _).mono ?_
  rintro e w1 ⟨rfl, rfl⟩
  go_wp2_with fail
  refine (digit_any _ _).mono ?_
  rintro e w1 ⟨rfl, rfl⟩
  go_wp2_with fail
  go_loop [7] (fun i => ∃ j : Nat, k + 1 ≤ j ∧ j ≤ s.size ∧ i = .int .i64 j ∧ j + ((s.data.toList.drop j).takeWhile isDig).length = wordEnd isDig s k) (fun i => s.size - (intOf i).toNat)
  case atStart => exact ⟨k + 1, by omega, by omega, by go_num, rfl⟩
  case round =>
    obtain ⟨j, hkj, hj, rfl, hrest⟩ := hrel
    have HR := Lib.hid hrest
    clear hrest
    by_cases hjt : j < s.size
    · by_cases ha : isDigit s[j].toNat = true
      · have hst := takeWhile_step (p := isDig) hjt ha
        have HST := Lib.hid hst
        clear hst
        go_wp2_with fail
        refine (digit_any _ _).mono ?_
        rintro e w1 ⟨rfl, rfl⟩
        go_wp2_with fail
        go_round
        case rel => exact ⟨j + 1, by omega, by omega, by go_num, by have h1 := HR.out; have h2 := HST.out; omega⟩
        case measure => simp [intOf]; omega
      · have ha0 : isDigit s[j].toNat = false := by simpa using ha
        have hj2 : j = wordEnd isDig s k := by have := takeWhile_stop (p := isDig) hjt ha0; have := HR.out; omega
        have HJ := Lib.hid hj2
        clear hj2 ha
        go_wp2_with fail
        refine (digit_any _ _).mono ?_
        rintro e w1 ⟨rfl, rfl⟩
        go_wp2_with fail
        cases hgn : getN (s.extract k j).data.toList with
        | some g =>
          refine (get_some _ _ g hgn (by unfold maxLen; simp; omega) (HT.out.below ((Below.refl _ _).alloc (Nat.le_refl _) _))).mono ?_
          rintro e w1 ⟨rfl, hb1⟩
          have HG := Lib.hid hgn
          clear hgn
          cases hl2 : isLetter s[j].toNat
          · skip
            go_wp2_with fail
            obtain ⟨hc0, hc1, hc2, hf0, hf1, hf2, hsz⟩ := three_cells hb1
            have HB1 := Lib.hid hb1
            clear hb1
            obtain ⟨base, hb0, hb2⟩ : ∃ base : Side → World, base .ahead = w1 ∧ base .behind = ((w1.setCell ⟨w.heap.size, 0, none⟩ (.int .i64 4)).setCell ⟨w.heap.size, 1, none⟩ (.string (s.extract k j))).setCell ⟨w.heap.size, 2, none⟩ (.int .i64 k) := ⟨fun b => match b with | .ahead => _ | .behind => _, rfl, rfl⟩
            have hkj1 : k ≤ j := by omega
            have hjs : ((j : Int) == (s.size : Int)) = false := by simp; omega
            have HB0 := Lib.hid hb0
            have HB2 := Lib.hid hb2
            clear hb0 hb2
            refine wp_region_one_lit 20 base (by kernel_rfl) (by kernel_rfl) (by kernel_rfl) HB0.out.symm ?_
            iterate 16 (refine yLex_still rfl rfl (fun K hK => ?_); go_simp; refine hK _ ?_; clear hK K)
            refine yLex_still rfl rfl (fun K hK => ?_)
            go_simp
            first
              | (refine hK _ ?_; clear hK K)
              | (refine ⟨.bool (isLetter s[j].toNat), fun b m => (letter_any _ _).mono ?_, hK _ ?_⟩
                 · rintro e w2 ⟨rfl, rfl⟩
                   exact ⟨rfl, m, rfl⟩
                 clear hK K)
            iterate 3 (refine yLex_still rfl rfl (fun K hK => ?_); go_simp; refine hK _ ?_; clear hK K)
            refine yLex_write rfl rfl rfl (fun m => ?_) ?_
            · rw [HB0.out, HB2.out]
              go_simp
              rfl
            refine yLex_still rfl rfl (fun K hK => ?_)
            go_simp
            refine hK _ ?_
            clear hK K
            refine yLex_end (fun m => ?_)
            rw [HB2.out]
            go_wp2
            exact bodyPost_ret (v := .tuple #[.agg #[.int .i64 4, .string (s.extract k j), .int .i64 k], .bool true]) (by simp [results, Tryd.results30, go_sem, hc0, hc1, hc2]) rfl
              ⟨num_ret h HJ.out HO.out h40 h41 hl hd _ (by rw [HG.out]; simp [head_at hjt, hl2]), below_three HB1.out m⟩
          · skip
            go_wp2_with fail
            obtain ⟨hc0, hc1, hc2, hf0, hf1, hf2, hsz⟩ := three_cells hb1
            have HB1 := Lib.hid hb1
            clear hb1
            obtain ⟨base, hb0, hb2⟩ : ∃ base : Side → World, base .ahead = w1 ∧ base .behind = ((w1.setCell ⟨w.heap.size, 0, none⟩ (.int .i64 4)).setCell ⟨w.heap.size, 1, none⟩ (.string (s.extract k j))).setCell ⟨w.heap.size, 2, none⟩ (.int .i64 k) := ⟨fun b => match b with | .ahead => _ | .behind => _, rfl, rfl⟩
            have hkj1 : k ≤ j := by omega
            have hjs : ((j : Int) == (s.size : Int)) = false := by simp; omega
            have HB0 := Lib.hid hb0
            have HB2 := Lib.hid hb2
            clear hb0 hb2
            refine wp_region_one_lit 20 base (by kernel_rfl) (by kernel_rfl) (by kernel_rfl) HB0.out.symm ?_
            iterate 16 (refine yLex_still rfl rfl (fun K hK => ?_); go_simp; refine hK _ ?_; clear hK K)
            refine yLex_still rfl rfl (fun K hK => ?_)
            go_simp
            first
              | (refine hK _ ?_; clear hK K)
              | (refine ⟨.bool (isLetter s[j].toNat), fun b m => (letter_any _ _).mono ?_, hK _ ?_⟩
                 · rintro e w2 ⟨rfl, rfl⟩
                   exact ⟨rfl, m, rfl⟩
                 clear hK K)
            iterate 3 (refine yLex_still rfl rfl (fun K hK => ?_); go_simp; refine hK _ ?_; clear hK K)
            refine yLex_write rfl rfl rfl (fun m => ?_) ?_
            · rw [HB0.out, HB2.out]
              go_simp
              rfl
            refine yLex_still rfl rfl (fun K hK => ?_)
            go_simp
            refine hK _ ?_
            clear hK K
            refine yLex_end (fun m => ?_)
            rw [HB2.out]
            go_wp2
            exact bodyPost_ret (v := .tuple #[.agg #[.int .i64 4, .string (s.extract k j), .int .i64 k], .bool false]) (by simp [results, Tryd.results30, go_sem, hc0, hc1, hc2]) rfl
              ⟨num_ret h HJ.out HO.out h40 h41 hl hd _ (by rw [HG.out]; simp [head_at hjt, hl2]), below_three HB1.out m⟩
        | none =>
          refine (get_none _ _ hgn (by unfold maxLen; simp; omega) (HT.out.below ((Below.refl _ _).alloc (Nat.le_refl _) _))).mono ?_
          rintro e w1 ⟨rfl, hb1⟩
          have HG := Lib.hid hgn
          clear hgn
          · skip
            go_wp2_with fail
            obtain ⟨hc0, hc1, hc2, hf0, hf1, hf2, hsz⟩ := three_cells hb1
            have HB1 := Lib.hid hb1
            clear hb1
            obtain ⟨base, hb0, hb2⟩ : ∃ base : Side → World, base .ahead = w1 ∧ base .behind = ((w1.setCell ⟨w.heap.size, 0, none⟩ (.int .i64 4)).setCell ⟨w.heap.size, 1, none⟩ (.string (s.extract k j))).setCell ⟨w.heap.size, 2, none⟩ (.int .i64 k) := ⟨fun b => match b with | .ahead => _ | .behind => _, rfl, rfl⟩
            have hkj1 : k ≤ j := by omega
            have hjs : ((j : Int) == (s.size : Int)) = false := by simp; omega
            have HB0 := Lib.hid hb0
            have HB2 := Lib.hid hb2
            clear hb0 hb2
            refine wp_region_one_lit 20 base (by kernel_rfl) (by kernel_rfl) (by kernel_rfl) HB0.out.symm ?_
            iterate 16 (refine yLex_still rfl rfl (fun K hK => ?_); go_simp; refine hK _ ?_; clear hK K)
            refine yLex_still rfl rfl (fun K hK => ?_)
            go_simp
            first
              | (refine hK _ ?_; clear hK K)
              | (refine ⟨.bool (isLetter s[j].toNat), fun b m => (letter_any _ _).mono ?_, hK _ ?_⟩
                 · rintro e w2 ⟨rfl, rfl⟩
                   exact ⟨rfl, m, rfl⟩
                 clear hK K)
            iterate 3 (refine yLex_still rfl rfl (fun K hK => ?_); go_simp; refine hK _ ?_; clear hK K)
            refine yLex_write rfl rfl rfl (fun m => ?_) ?_
            · rw [HB0.out, HB2.out]
              go_simp
              rfl
            refine yLex_still rfl rfl (fun K hK => ?_)
            go_simp
            refine hK _ ?_
            clear hK K
            refine yLex_end (fun m => ?_)
            rw [HB2.out]
            go_wp2
            exact bodyPost_ret (v := .tuple #[.agg #[.int .i64 4, .string (s.extract k j), .int .i64 k], .bool false]) (by simp [results, Tryd.results30, go_sem, hc0, hc1, hc2]) rfl
              ⟨num_ret h HJ.out HO.out h40 h41 hl hd _ (by rw [HG.out]; rfl), below_three HB1.out m⟩
    · have hjz : j = s.size := by omega
      have hj2 : j = wordEnd isDig s k := by
        have := HR.out
        have h3 := takeWhile_end (p := isDig) (s := s)
        rw [← hjz] at h3
        omega
      have HJ := Lib.hid hj2
      have HJZ := Lib.hid hjz
      clear hj2 hjz
      · skip
        go_wp2_with fail
        cases hgn : getN (s.extract k j).data.toList with
        | some g =>
          refine (get_some _ _ g hgn (by unfold maxLen; simp; omega) (HT.out.below ((Below.refl _ _).alloc (Nat.le_refl _) _))).mono ?_
          rintro e w1 ⟨rfl, hb1⟩
          have HG := Lib.hid hgn
          clear hgn
          · skip
            go_wp2_with fail
            obtain ⟨hc0, hc1, hc2, hf0, hf1, hf2, hsz⟩ := three_cells hb1
            have HB1 := Lib.hid hb1
            clear hb1
            obtain ⟨base, hb0, hb2⟩ : ∃ base : Side → World, base .ahead = w1 ∧ base .behind = ((w1.setCell ⟨w.heap.size, 0, none⟩ (.int .i64 4)).setCell ⟨w.heap.size, 1, none⟩ (.string (s.extract k j))).setCell ⟨w.heap.size, 2, none⟩ (.int .i64 k) := ⟨fun b => match b with | .ahead => _ | .behind => _, rfl, rfl⟩
            have hkj1 : k ≤ j := by omega
            have hjs : ((j : Int) == (s.size : Int)) = true := by simp; omega
            have HB0 := Lib.hid hb0
            have HB2 := Lib.hid hb2
            clear hb0 hb2
            refine wp_region_one_lit 20 base (by kernel_rfl) (by kernel_rfl) (by kernel_rfl) HB0.out.symm ?_
            iterate 16 (refine yLex_still rfl rfl (fun K hK => ?_); go_simp; refine hK _ ?_; clear hK K)
            refine yLex_still rfl rfl (fun K hK => ?_)
            go_simp
            refine hK _ ?_
            clear hK K
            iterate 3 (refine yLex_still rfl rfl (fun K hK => ?_); go_simp; refine hK _ ?_; clear hK K)
            refine yLex_write rfl rfl rfl (fun m => ?_) ?_
            · rw [HB0.out, HB2.out]
              go_simp
              rfl
            refine yLex_still rfl rfl (fun K hK => ?_)
            go_simp
            refine hK _ ?_
            clear hK K
            refine yLex_end (fun m => ?_)
            rw [HB2.out]
            go_wp2
            exact bodyPost_ret (v := .tuple #[.agg #[.int .i64 4, .string (s.extract k j), .int .i64 k], .bool true]) (by simp [results, Tryd.results30, go_sem, hc0, hc1, hc2]) rfl
              ⟨num_ret h HJ.out HO.out h40 h41 hl hd _ (by rw [HG.out]; simp [head_end HJZ.out]), below_three HB1.out m⟩
        | none =>
          refine (get_none _ _ hgn (by unfold maxLen; simp; omega) (HT.out.below ((Below.refl _ _).alloc (Nat.le_refl _) _))).mono ?_
          rintro e w1 ⟨rfl, hb1⟩
          have HG := Lib.hid hgn
          clear hgn
          · skip
            go_wp2_with fail
            obtain ⟨hc0, hc1, hc2, hf0, hf1, hf2, hsz⟩ := three_cells hb1
            have HB1 := Lib.hid hb1
            clear hb1
            obtain ⟨base, hb0, hb2⟩ : ∃ base : Side → World, base .ahead = w1 ∧ base .behind = ((w1.setCell ⟨w.heap.size, 0, none⟩ (.int .i64 4)).setCell ⟨w.heap.size, 1, none⟩ (.string (s.extract k j))).setCell ⟨w.heap.size, 2, none⟩ (.int .i64 k) := ⟨fun b => match b with | .ahead => _ | .behind => _, rfl, rfl⟩
            have hkj1 : k ≤ j := by omega
            have hjs : ((j : Int) == (s.size : Int)) = true := by simp; omega
            have HB0 := Lib.hid hb0
            have HB2 := Lib.hid hb2
            clear hb0 hb2
            refine wp_region_one_lit 20 base (by kernel_rfl) (by kernel_rfl) (by kernel_rfl) HB0.out.symm ?_
            iterate 16 (refine yLex_still rfl rfl (fun K hK => ?_); go_simp; refine hK _ ?_; clear hK K)
            refine yLex_still rfl rfl (fun K hK => ?_)
            go_simp
            refine hK _ ?_
            clear hK K
            iterate 3 (refine yLex_still rfl rfl (fun K hK => ?_); go_simp; refine hK _ ?_; clear hK K)
            refine yLex_write rfl rfl rfl (fun m => ?_) ?_
            · rw [HB0.out, HB2.out]
              go_simp
              rfl
            refine yLex_still rfl rfl (fun K hK => ?_)
            go_simp
            refine hK _ ?_
            clear hK K
            refine yLex_end (fun m => ?_)
            rw [HB2.out]
            go_wp2
            exact bodyPost_ret (v := .tuple #[.agg #[.int .i64 4, .string (s.extract k j), .int .i64 k], .bool false]) (by simp [results, Tryd.results30, go_sem, hc0, hc1, hc2]) rfl
              ⟨num_ret h HJ.out HO.out h40 h41 hl hd _ (by rw [HG.out]; rfl), below_three HB1.out m⟩
end Go.Proofs.YtfklmcmoackepaaDoor
