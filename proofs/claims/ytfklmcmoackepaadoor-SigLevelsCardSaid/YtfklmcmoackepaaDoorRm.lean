/- What is read is right; what stands behind changes nothing: on lists. -/
import Derived.Test.YtfklmcmoackepaaDoorSy
import Derived.Test.YtfklmcmoackepaaDoorLaw10b
namespace Go.Proofs.YtfklmcmoackepaaDoor
open Go.RowKit

theorem RR.bind_eq_ok {α β : Type} {r : RR α} {f : α → Nat → RR β} {b : β} {k : Nat} (h : r.bind f = .ok b k) : ∃ a k1, r = .ok a k1 ∧ f a k1 = .ok b k := by
  cases r with
  | ok a k1 => exact ⟨a, k1, rfl, h⟩
  | bad k1 => cases h

theorem capM_ok {q n k : Nat} {m k' : Nat} (h : capM q n k = .ok m k') : m = n ∧ k' = k ∧ n ≤ 1000 := by
  unfold capM at h
  split at h
  · cases h
  · cases h; exact ⟨rfl, rfl, by omega⟩
theorem shutM_ok {E : REnv} {q n k m k' : Nat} (h : shutM E q n k = .ok m k') : kindAt E.l k = 2 ∧ m = n ∧ k' = k + 1 ∧ n ≤ 1000 := by
  unfold shutM at h
  split at h
  · obtain ⟨a, b, c⟩ := capM_ok h
    exact ⟨by assumption, a, b, c⟩
  · cases h
theorem levelM_le {E : REnv} : ∀ {f k m k' : Nat}, levelM E f k = .ok m k' → m ≤ 1000
  | 0, k, m, k', h => by simp [levelM] at h
  | f + 1, k, m, k', h => by
    unfold levelM at h
    split at h
    · obtain ⟨rfl, _, c⟩ := capM_ok h; exact c
    split at h
    · obtain ⟨rfl, _, c⟩ := capM_ok h; exact c
    split at h
    · obtain ⟨rfl, _, c⟩ := capM_ok h; exact c
    split at h
    · split at h
      · obtain ⟨a, k1, _, h2⟩ := RR.bind_eq_ok h
        obtain ⟨_, rfl, _, c⟩ := shutM_ok h2; exact c
      split at h
      · obtain ⟨a, k1, _, h2⟩ := RR.bind_eq_ok h
        obtain ⟨b, k2, _, h3⟩ := RR.bind_eq_ok h2
        obtain ⟨_, rfl, _, c⟩ := shutM_ok h3; exact c
      · cases h
    · cases h
theorem symM_ok {E : REnv} {k n k' : Nat} (h : symM E k = .ok n k') : 1 ≤ n ∧ n ≤ 21 := by
  unfold symM at h
  obtain ⟨s, k1, _, h2⟩ := RR.bind_eq_ok h
  split at h2
  · cases h2
  · cases h2
    have := symI_le s
    omega

theorem levelB_nat {n : Nat} (h : n ≤ 1000) : levelB n = true := by simp [levelB]; omega
theorem headM_ok {E : REnv} {kd k n i j k' : Nat} (h1 : 1 ≤ kd) (h2 : kd ≤ 23) (h3 : kd ≠ 2) (h : headM E kd k = .ok (n, i, j) k') : numbersB kd i j n = true ∧ (kd = 23 → 1 ≤ n ∧ n ≤ 21) := by
  unfold headM at h
  split at h
  · obtain ⟨a, k1, e1, g1⟩ := RR.bind_eq_ok h
    obtain ⟨b, k2, e2, g2⟩ := RR.bind_eq_ok g1
    obtain ⟨c, k3, e3, g3⟩ := RR.bind_eq_ok g2
    cases g3
    have l1 := levelB_nat (levelM_le e2)
    have l2 := levelB_nat (levelM_le e3)
    subst kd
    refine ⟨?_, fun _ => symM_ok e1⟩
    simp [numbersB, l1, l2]
  · split at h
    · rename_i hn hl
      obtain ⟨b, k2, e2, g2⟩ := RR.bind_eq_ok h
      obtain ⟨c, k3, e3, g3⟩ := RR.bind_eq_ok g2
      cases g3
      have l1 := levelB_nat (levelM_le e2)
      have l2 := levelB_nat (levelM_le e3)
      refine ⟨?_, fun h => by omega⟩
      have : kd = 3 ∨ kd = 4 ∨ kd = 5 ∨ kd = 6 ∨ kd = 7 ∨ kd = 8 ∨ kd = 9 := by
        unfold levelsK at hl
        split at hl
        · omega
        · split at hl <;> omega
      rcases this with rfl | rfl | rfl | rfl | rfl | rfl | rfl <;> simp [numbersB, l1, l2]
    · split at h
      · rename_i hn hl0 hl
        obtain ⟨b, k2, e2, g2⟩ := RR.bind_eq_ok h
        cases g2
        have l1 := levelB_nat (levelM_le e2)
        refine ⟨?_, fun h => by omega⟩
        have : kd = 1 ∨ kd = 10 ∨ kd = 11 ∨ kd = 12 := by
          unfold levelsK at hl
          split at hl
          · omega
          · split at hl <;> omega
        rcases this with rfl | rfl | rfl | rfl <;> simp [numbersB, l1]
      · rename_i hn hl0 hl
        cases h
        refine ⟨?_, fun h => by omega⟩
        have : kd = 13 ∨ kd = 14 ∨ kd = 15 ∨ kd = 16 ∨ kd = 17 ∨ kd = 18 ∨ kd = 19 ∨ kd = 20 ∨ kd = 21 ∨ kd = 22 := by
          unfold levelsK at hl hl0
          split at hl
          · omega
          · split at hl <;> split at hl0 <;> omega
        rcases this with rfl | rfl | rfl | rfl | rfl | rfl | rfl | rfl | rfl | rfl <;> simp [numbersB]

theorem binds_kd {kd : Nat} {y : Nat} (h22 : kd ≠ 22) (h : 0 < bindsK kd y) : bindsK kd y = 1 ∧ bindsK kd 1 = 1 := by
  unfold bindsK at *
  split at h
  · rename_i hc
    rw [if_pos hc]
    have := hc.1
    exact ⟨rfl, by rw [if_pos ⟨hc.1, rfl⟩]⟩
  · rename_i hc
    rw [if_neg hc]
    split at h
    · rename_i hd
      rw [if_pos hd]
      refine ⟨rfl, ?_⟩
      rw [if_neg (by omega), if_pos ⟨hd.1, by omega⟩]
    · split at h
      · omega
      · omega
theorem binds_22 (y : Nat) : bindsK (22 : Nat) y = if y = 2 then 2 else 0 := by
  unfold bindsK
  rw [if_neg (by omega), if_neg (by omega)]
  by_cases h : y = 2
  · subst h; simp
  · rw [if_neg (by omega), if_neg h]

theorem ofK_to (kd : Nat) (x : Nat) : ((ofK kd x).toNat : Int) = ofK kd x ∧ (ofK kd x).toNat ≤ 2 := by
  unfold ofK sortK
  repeat split
  all_goals omega

theorem kidsM_right {E : REnv} {F : List (List UInt8) → Nat → Nat → RR TT} {outer : List (List UInt8)} {kd : Nat} {B : Nat} (hB : outer.length + 2 ≤ B)
    (hF : ∀ (nm : List (List UInt8)) (want k : Nat) (t : TT) (k' : Nat), want ≤ 2 → nm.length ≤ B → F nm want k = .ok t k' → rightT t want = true ∧ freeR t ≤ nm.length) :
    ∀ (c x : Nat) (nm : List (List UInt8)) (acc : List TT) (k : Nat) (ks : List TT) (k' : Nat), (kd ≠ 22 → ∀ y : Nat, 0 < bindsK kd y → bindsK kd y = nm.length) → kidsM E F outer kd c x nm acc k = .ok ks k' →
      ∃ l, ks = acc ++ l ∧ l.length = c ∧ rightTs kd x l = true ∧ freeRs kd x l ≤ outer.length
  | 0, x, nm, acc, k, ks, k', hnm, h => by
    simp only [kidsM] at h
    cases h
    exact ⟨[], by simp, rfl, rfl, by simp [freeRs]⟩
  | c + 1, x, nm, acc, k, ks, k', hnm, h => by
    simp only [kidsM] at h
    obtain ⟨nm1, k1, e1, h1⟩ := RR.bind_eq_ok h
    obtain ⟨t, k2, e2, h2⟩ := RR.bind_eq_ok h1
    have hb : (0 < bindsK kd x → bindsK kd x = nm1.length) ∧ (kd ≠ 22 → nm1 = nm) := by
      unfold bindM at e1
      split at e1
      · rename_i hc
        obtain ⟨a, k3, _, g⟩ := RR.bind_eq_ok e1
        obtain ⟨b, k4, _, g2⟩ := RR.bind_eq_ok g
        cases g2
        rw [hc.1, binds_22, if_pos hc.2]
        exact ⟨fun _ => rfl, fun h => absurd rfl h⟩
      · rename_i hc
        cases e1
        refine ⟨fun hp => ?_, fun _ => rfl⟩
        by_cases h22 : kd = 22
        · rw [h22, binds_22] at hp
          split at hp
          · exact absurd ⟨h22, by assumption⟩ hc
          · omega
        · exact hnm h22 x hp
    have hk2 := (bindsK_in kd x)
    have hlen : ((if 0 < bindsK kd x then outer ++ nm1 else outer).length : Int) ≤ outer.length + bindsK kd x ∧ (if 0 < bindsK kd x then outer ++ nm1 else outer).length ≤ B := by
      split
      · rename_i hp
        have := hb.1 hp
        rw [List.length_append]; omega
      · omega
    obtain ⟨r1, r2⟩ := hF _ _ _ _ _ (ofK_to kd x).2 hlen.2 e2
    rw [(ofK_to kd x).1] at r1
    obtain ⟨l, e, hl, hr, hf⟩ := kidsM_right hB hF c (x + 1) nm1 (acc ++ [t]) k2 ks k' (fun h22 => by rw [hb.2 h22]; exact hnm h22) h2
    refine ⟨t :: l, by rw [e]; simp, by simp [hl], ?_, ?_⟩
    · simp only [rightTs, r1, hr, Bool.and_self]
    · simp only [freeRs]; omega

theorem kidsK_pos {kd : Nat} {n : Nat} (h1 : 1 ≤ kd) (h2 : kd ≤ 23) (h : kd = 23 → 1 ≤ n ∧ n ≤ 21) : 0 ≤ kidsK kd n := by
  by_cases h23 : kd = 23
  · obtain ⟨a, b⟩ := h h23
    have : ∀ m : Nat, m < 22 → 1 ≤ m → 0 ≤ kidsK (23 : Nat) m := by decide +kernel
    rw [h23]; exact this n (by omega) a
  · have hh : ∀ kd : Nat, kd < 23 → 1 ≤ kd → ∀ n : Int, 0 ≤ kidsK kd n := by
      intro kd h1 h2 n
      unfold kidsK
      rcases (show kd = 1 ∨ kd = 2 ∨ kd = 3 ∨ kd = 4 ∨ kd = 5 ∨ kd = 6 ∨ kd = 7 ∨ kd = 8 ∨ kd = 9 ∨ kd = 10 ∨ kd = 11 ∨ kd = 12 ∨ kd = 13 ∨ kd = 14 ∨ kd = 15 ∨ kd = 16 ∨ kd = 17 ∨ kd = 18 ∨ kd = 19 ∨ kd = 20 ∨ kd = 21 ∨ kd = 22 by omega) with rfl | rfl | rfl | rfl | rfl | rfl | rfl | rfl | rfl | rfl | rfl | rfl | rfl | rfl | rfl | rfl | rfl | rfl | rfl | rfl | rfl | rfl <;> simp
    exact hh kd (by omega) h1 n

theorem wrong_sort {want kd : Nat} (hw : want ≤ 2) (h : wrongM want kd = false) (h2 : kd ≠ 2) : 1 ≤ kd ∧ ((want : Int) != 0 && sortK kd != 0 && sortK kd != (want : Int)) = false := by
  unfold wrongM at h
  simp only [Bool.or_eq_false_iff, Bool.and_eq_false_iff, beq_eq_false_iff_ne, decide_eq_false_iff_not] at h
  refine ⟨by omega, ?_⟩
  unfold sortK
  rcases (show want = 0 ∨ want = 1 ∨ want = 2 by omega) with rfl | rfl | rfl
  · rfl
  · by_cases h1 : kd = 1
    · subst h1; rfl
    · rw [if_neg (by omega), if_pos (by omega)]; rfl
  · by_cases h1 : kd = 1
    · subst h1; rfl
    · rw [if_neg (by omega), if_neg (by omega)]; rfl

theorem bodyM_right {E : REnv} {F : List (List UInt8) → Nat → Nat → RR TT} {outer : List (List UInt8)} {kd k : Nat} {B want : Nat} (hB : outer.length + 2 ≤ B) (hw : want ≤ 2) (hk : kd ≤ 23) (h2 : kd ≠ 2) (hwr : wrongM want kd = false)
    (hF : ∀ (nm : List (List UInt8)) (want k : Nat) (t : TT) (k' : Nat), want ≤ 2 → nm.length ≤ B → F nm want k = .ok t k' → rightT t want = true ∧ freeR t ≤ nm.length) {t : TT} {k' : Nat} (h : bodyM E F outer kd k = .ok t k') : rightT t want = true ∧ freeR t ≤ outer.length := by
  obtain ⟨h1, hs⟩ := wrong_sort hw hwr h2
  unfold bodyM at h
  obtain ⟨⟨n, i, j⟩, k1, e1, g1⟩ := RR.bind_eq_ok h
  obtain ⟨nm, k2, e2, g2⟩ := RR.bind_eq_ok g1
  obtain ⟨ks, k3, e3, g3⟩ := RR.bind_eq_ok g2
  obtain ⟨hn, hsy⟩ := headM_ok h1 hk h2 e1
  dsimp only at e3 g3
  have hnm : kd ≠ 22 → ∀ y : Nat, 0 < bindsK kd y → bindsK kd y = nm.length := fun h22 y hp => by
    obtain ⟨b1, b2⟩ := binds_kd h22 hp
    rw [if_pos b2] at e2
    obtain ⟨s, k4, _, g4⟩ := RR.bind_eq_ok e2
    cases g4
    rw [b1]; rfl
  obtain ⟨l, e, hl, hr, hf⟩ := kidsM_right hB hF _ 0 nm [] k2 ks k3 hnm e3
  unfold closeM at g3
  split at g3
  · cases g3
    simp only [List.nil_append] at e
    subst e
    have hp := kidsK_pos (n := n) h1 hk hsy
    refine ⟨?_, ?_⟩
    · simp only [rightT, hs, hn, hr, hl, Bool.not_false, Bool.true_and, Bool.and_true, beq_iff_eq]
      omega
    · simp only [freeR]
      rw [if_neg (by omega)]
      exact hf
  · cases g3

theorem look_lt {nm : List (List UInt8)} {s : List UInt8} {x : Nat} (h : lookM nm s = some x) : x < nm.length := by
  unfold lookM at h
  split at h
  · rename_i hm
    cases h
    have : s ∈ nm.reverse := by simpa using hm
    have := List.idxOf_lt_length_of_mem this
    simpa using this
  · cases h

theorem termM_right (E : REnv) : ∀ (f : Nat) (nm : List (List UInt8)) (want k : Nat) (t : TT) (k' : Nat), want ≤ 2 → nm.length + 2 * f ≤ 2147483647 → termM E f nm want k = .ok t k' → rightT t want = true ∧ freeR t ≤ nm.length
  | 0, nm, want, k, t, k', _, _, h => by simp [termM] at h
  | f + 1, nm, want, k, t, k', hw, hn, h => by
    unfold termM at h
    split at h
    · split at h
      · rename_i x hx
        cases h
        have hlt := look_lt hx
        refine ⟨?_, ?_⟩
        · have : (x : Int) ≤ 2147483647 := by omega
          simp [rightT, rightTs, sortK, kidsK, numbersB, this]
        · simp [freeR]; omega
      · cases h
    split at h
    · cases h
    split at h
    · cases h
    split at h
    · cases h
    · rename_i hwr
      refine bodyM_right (B := nm.length + 2) (Nat.le_refl _) hw (kindW_le _) (kindW_ne2 _) (by simpa using hwr) (fun nm' want' k1 t1 k1' hw' hl h1 => termM_right E f nm' want' k1 t1 k1' hw' (by omega) h1) h

theorem readM_right {text : List UInt8} {nm : List (List UInt8)} {i j : Nat} {t : TT} {k : Nat} (hn : nm.length + 2 * text.length ≤ 2147483600) (h : readM text nm i j = .ok t k) : rightT t 0 = true ∧ freeOf t ≤ nm.length := by
  unfold readM at h
  obtain ⟨t1, k1, e1, h1⟩ := RR.bind_eq_ok h
  split at h1
  · cases h1
  cases h1
  have hlen := lexL_length text
  obtain ⟨a, b⟩ := termM_right _ _ _ 0 _ _ _ (by omega) (by omega) e1
  exact ⟨a, by rw [freeOf_R a]; exact b⟩

theorem placeM_le (text : List UInt8) (k : Nat) : placeM text k ≤ text.length := by
  obtain ⟨toks, f, hl⟩ : ∃ toks f, lexL text = (toks, f) := ⟨_, _, rfl⟩
  unfold placeM
  rw [hl]
  dsimp only
  cases f with
  | none =>
    by_cases hk : k < toks.length
    · rw [List.getElem?_eq_getElem hk]
      have := spans_pos text 0 toks (spans_lexL _ _ hl) k hk
      dsimp only; omega
    · rw [List.getElem?_eq_none (by omega)]; simp
  | some p =>
    have hp := lexL_fault hl
    by_cases hk : k < toks.length
    · rw [List.getElem?_eq_getElem hk]
      have := spans_pos (text.take p) 0 toks (spans_lexL _ _ (lexL_cut hl)) k hk
      rw [List.length_take] at this
      dsimp only; omega
    · rw [List.getElem?_eq_none (by omega)]; simpa using hp
end Go.Proofs.YtfklmcmoackepaaDoor
