/- Levels of level texts: on lists. -/
import Derived.Test.YtefjgpahgffmfaaDoorRm
namespace Go.Proofs.YtefjgpahgffmfaaDoor
open Go.RowKit

/-- so many suc's about i or (max i j) -/
def levT : Nat → Bool → List UInt8
  | 0, false => [105]
  | 0, true => [40, 109, 97, 120, 32, 105, 32, 106, 41]
  | m + 1, b => [40, 115, 117, 99, 32] ++ levT m b ++ [41]
def sortT (m : Nat) (b : Bool) : List UInt8 := [40, 115, 111, 114, 116, 32] ++ levT m b ++ [41]
def levBase (b : Bool) (m : Nat) : Nat := 2 + 2 * m + if b then 5 else 1
/-- the tokens of such a text -/
def levChk (m : Nat) (b : Bool) : Bool :=
  let x := lexL (sortT m b)
  let l := x.1
  x.2 == none && l.length == levBase b m + m + 1 &&
  kindAt l 0 == 1 && kindAt l 1 == 3 && textAt l 1 == [115, 111, 114, 116] &&
  ((List.range m).all fun y => kindAt l (2 + 2 * y) == 1 && kindAt l (2 + 2 * y + 1) == 3 && textAt l (2 + 2 * y + 1) == wSuc && kindAt l (levBase b m + y) == 2 && (l[2 + 2 * y]?.map Tok.pos) == some (6 + 5 * y)) &&
  kindAt l (levBase b m + m) == 2 &&
  (if b then kindAt l (2 + 2 * m) == 1 && kindAt l (2 + 2 * m + 1) == 3 && textAt l (2 + 2 * m + 1) == wMax && kindAt l (2 + 2 * m + 2) == 3 && textAt l (2 + 2 * m + 2) == wI && kindAt l (2 + 2 * m + 3) == 3 && textAt l (2 + 2 * m + 3) == wJ && kindAt l (2 + 2 * m + 4) == 2
   else kindAt l (2 + 2 * m) == 3 && textAt l (2 + 2 * m) == wI)
theorem levChk_all : ∀ m : Nat, m < 31 → ∀ b : Bool, levChk m b = true := by decide +kernel

def levVal (i j : Nat) (b : Bool) : Nat := if b then max i j else i

theorem levM_at {l : List Tok} {m : Nat} {b : Bool} {i j : Nat} (hi : i ≤ 1000) (hj : j ≤ 1000)
    (h1 : ∀ y, y < m → kindAt l (2 + 2 * y) = 1 ∧ kindAt l (2 + 2 * y + 1) = 3 ∧ textAt l (2 + 2 * y + 1) = wSuc ∧ kindAt l (levBase b m + y) = 2)
    (h2 : if b then kindAt l (2 + 2 * m) = 1 ∧ kindAt l (2 + 2 * m + 1) = 3 ∧ textAt l (2 + 2 * m + 1) = wMax ∧ kindAt l (2 + 2 * m + 2) = 3 ∧ textAt l (2 + 2 * m + 2) = wI ∧ kindAt l (2 + 2 * m + 3) = 3 ∧ textAt l (2 + 2 * m + 3) = wJ ∧ kindAt l (2 + 2 * m + 4) = 2
      else kindAt l (2 + 2 * m) = 3 ∧ textAt l (2 + 2 * m) = wI) :
    ∀ d, d ≤ m → ∀ f, d + 2 ≤ f → levelM ⟨l, i, j⟩ f (2 + 2 * (m - d)) = if levVal i j b + d ≤ 1000 then .ok (levVal i j b + d) (levBase b m + d) else .bad (2 + 2 * (m - (1001 - levVal i j b)))
  | 0, _, f, hf => by
    obtain ⟨f, rfl⟩ : ∃ g, f = g + 2 := ⟨f - 2, by omega⟩
    have hv : levVal i j b ≤ 1000 := by unfold levVal; split <;> omega
    rw [show levVal i j b + 0 = levVal i j b from rfl, show levBase b m + 0 = levBase b m from rfl, if_pos hv, Nat.sub_zero]
    cases b with
    | false =>
      simp only [Bool.false_eq_true, if_false] at h2
      unfold levelM
      have hcap : capM (2 + 2 * m) i (2 + 2 * m + 1) = .ok i (2 + 2 * m + 1) := by unfold capM; rw [if_neg (by omega)]
      rw [if_neg (by dsimp only; omega), if_pos h2]
      dsimp only
      rw [hcap]
      simp [levVal, levBase]
    | true =>
      simp only [if_true] at h2
      obtain ⟨a1, a2, a3, a4, a5, a6, a7, a8⟩ := h2
      have hcap : ∀ q v k, v ≤ 1000 → capM q v k = .ok v k := fun q v k h => by unfold capM; rw [if_neg (by omega)]
      have e1 : levelM ⟨l, i, j⟩ (f + 1) (2 + 2 * m + 2) = .ok i (2 + 2 * m + 3) := by
        unfold levelM
        rw [if_neg (by dsimp only; omega), if_pos ⟨a4, a5⟩, hcap _ _ _ hi]
      have e2 : levelM ⟨l, i, j⟩ (f + 1) (2 + 2 * m + 3) = .ok j (2 + 2 * m + 4) := by
        unfold levelM
        rw [if_neg (by dsimp only; omega), if_neg (by dsimp only; rw [a7]; simp [wI, wJ]), if_pos ⟨a6, a7⟩, hcap _ _ _ hj]
      rw [levelM]
      rw [if_neg (by dsimp only; omega), if_neg (by dsimp only; omega), if_neg (by dsimp only; omega), if_pos a1, if_neg (by dsimp only; rw [a3]; simp [wSuc, wMax]), if_pos ⟨a2, a3⟩, e1, RR.bind_ok, e2, RR.bind_ok]
      unfold shutM
      rw [if_pos a8, hcap _ _ _ (by omega)]
      simp [levVal, levBase]
  | d + 1, hd, f, hf => by
    obtain ⟨f, rfl⟩ : ∃ g, f = g + 1 := ⟨f - 1, by omega⟩
    obtain ⟨a1, a2, a3, _⟩ := h1 (m - (d + 1)) (by omega)
    obtain ⟨_, _, _, a4⟩ := h1 d (by omega)
    have ih := levM_at hi hj h1 h2 d (by omega) f (by omega)
    have hv : levVal i j b ≤ 1000 := by unfold levVal; split <;> omega
    rw [levelM]
    rw [if_neg (by dsimp only; omega), if_neg (by dsimp only; omega), if_neg (by dsimp only; omega), if_pos a1, if_pos ⟨a2, a3⟩]
    rw [show 2 + 2 * (m - (d + 1)) + 2 = 2 + 2 * (m - d) by omega, ih]
    by_cases hq : levVal i j b + d ≤ 1000
    · rw [if_pos hq, RR.bind_ok]
      unfold shutM
      rw [if_pos a4]
      unfold capM
      by_cases hq2 : levVal i j b + (d + 1) ≤ 1000
      · rw [if_pos hq2, if_neg (by omega)]
        simp [Nat.add_assoc]
      · rw [if_neg hq2, if_pos (by omega)]
        have : d + 1 = 1001 - levVal i j b := by omega
        rw [← this]
    · rw [if_neg hq, RR.bind_bad, if_neg (by omega)]

theorem sort_read {m : Nat} (hm : m < 31) (b : Bool) {i j : Nat} (hi : i ≤ 1000) (hj : j ≤ 1000) :
    (levVal i j b + m ≤ 1000 → ∃ q, readM (sortT m b) [] i j = .ok (.node 1 (levVal i j b + m : Nat) 0 0 []) q) ∧
    (1000 < levVal i j b + m → ∃ q, readM (sortT m b) [] i j = .bad q ∧ placeM (sortT m b) q = 6 + 5 * (m - (1001 - levVal i j b))) := by
  have hc := levChk_all m hm b
  have hv : levVal i j b ≤ 1000 := by unfold levVal; split <;> omega
  unfold levChk at hc
  dsimp only at hc
  simp only [Bool.and_eq_true, beq_iff_eq, List.all_eq_true, List.mem_range] at hc
  obtain ⟨⟨⟨⟨⟨⟨⟨c1, c2⟩, c3⟩, c4⟩, c5⟩, c6⟩, c7⟩, c8⟩ := hc
  generalize hl : lexL (sortT m b) = x at *
  obtain ⟨l, o⟩ := x
  dsimp only at *
  have hL := levM_at (l := l) (m := m) (b := b) hi hj (fun y hy => by
    obtain ⟨⟨⟨⟨d1, d2⟩, d3⟩, d4⟩, _⟩ := c6 y hy
    exact ⟨d1, d2, d3, d4⟩) (by
    cases b with
    | true =>
      simp only [if_true, Bool.and_eq_true, beq_iff_eq] at c8 ⊢
      obtain ⟨⟨⟨⟨⟨⟨⟨d1, d2⟩, d3⟩, d4⟩, d5⟩, d6⟩, d7⟩, d8⟩ := c8
      exact ⟨d1, d2, d3, d4, d5, d6, d7, d8⟩
    | false =>
      simp only [Bool.false_eq_true, if_false, Bool.and_eq_true, beq_iff_eq] at c8 ⊢
      exact c8) m (Nat.le_refl _) (l.length + 1) (by rw [c2]; unfold levBase; split <;> omega)
  rw [Nat.sub_self] at hL
  have hk1 : kindW (textAt l 1) = 1 := by rw [c5]; decide +kernel
  have hterm : termM ⟨l, i, j⟩ (l.length + 1) [] 0 0 = (levelM ⟨l, i, j⟩ (l.length + 1) 2).bind fun v k1 => closeM ⟨l, i, j⟩ 1 0 v 0 [] k1 := by
    rw [termM]
    dsimp only
    rw [if_neg (by omega), if_neg (by simp [c3]), if_neg (by simp [c4])]
    rw [show (0 : Nat) + 1 = 1 from rfl, hk1, if_neg (by decide)]
    unfold bodyM headM
    rw [if_neg (by decide), if_neg (by decide), if_pos (by decide)]
    unfold levM
    rw [RR.bind_assoc]
    refine RR.bind_congr _ fun v k1 _ => ?_
    simp only [RR.bind_ok]
    rw [if_neg (by decide)]
    rw [RR.bind_ok]
    have : (kidsK ((1 : Nat) : Int) ((0 : Nat) : Int)).toNat = 0 := by decide
    rw [this]
    simp only [kidsM, RR.bind_ok]
  have hread : readM (sortT m b) [] i j = (termM ⟨l, i, j⟩ (l.length + 1) [] 0 0).bind fun t k => if k < l.length then .bad k else .ok t k := by
    unfold readM
    rw [hl]
    dsimp only
    refine RR.bind_congr _ fun t k _ => ?_
    rw [c1]
    simp
  rw [hread, hterm]
  rw [Nat.mul_zero, Nat.add_zero] at hL
  rw [hL]
  refine ⟨fun h => ?_, fun h => ?_⟩
  · rw [if_pos h, RR.bind_ok]
    unfold closeM
    rw [if_pos c7, RR.bind_ok, if_neg (by omega)]
    exact ⟨_, rfl⟩
  · rw [if_neg (by omega)]
    refine ⟨_, rfl, ?_⟩
    unfold placeM
    rw [hl]
    dsimp only
    obtain ⟨_, hp⟩ := c6 (m - (1001 - levVal i j b)) (by omega)
    rw [Option.map_eq_some_iff] at hp
    obtain ⟨t, ht, hpos⟩ := hp
    rw [ht]
    exact hpos
end Go.Proofs.YtefjgpahgffmfaaDoor
