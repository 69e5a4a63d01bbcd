/- Plain bounds: what is not great has few nodes; the text of few nodes is short. -/
import Derived.Test.YtfpiogaakblpeaaDoorRShow
import Derived.Test.YtfpiogaakblpeaaDoorNumP
import Derived.Test.YtfpiogaakblpeaaDoorParL
namespace Go.Proofs.YtfpiogaakblpeaaDoor
open Go.RowKit

theorem weighs_gt : ∀ (ks : List DT) (most deep n : Int), most < n → weighs ks most deep n = n
  | [], _, _, _, _ => by simp [weighs]
  | k :: ks, most, deep, n, h => by simp only [weighs]; rw [if_neg (by omega)]
mutual
theorem weigh_nodes : ∀ (d : DT) (most deep : Int), weigh d most deep ≤ most → weigh d most deep = nodesD d
  | .node _ _ ks, most, deep, h => by
    simp only [weigh] at *
    split at h
    · omega
    · rename_i hd
      rw [if_neg hd]
      have := weighs_nodes ks most deep 1 h
      rw [this, nodesD]
      omega
theorem weighs_nodes : ∀ (ks : List DT) (most deep n : Int), weighs ks most deep n ≤ most → weighs ks most deep n = n + nodesDs ks
  | [], most, deep, n, h => by simp [weighs, nodesDs]
  | k :: ks, most, deep, n, h => by
    simp only [weighs] at *
    split at h
    · rename_i hn
      rw [if_pos hn]
      by_cases hk : weigh k (most - n) (deep - 1) ≤ most - n
      · have h1 := weigh_nodes k (most - n) (deep - 1) hk
        have h2 := weighs_nodes ks most deep (n + weigh k (most - n) (deep - 1)) h
        rw [h2, nodesDs, h1]
        omega
      · rw [weighs_gt ks most deep _ (by omega)] at h
        omega
    · omega
end
theorem nodes_pos (d : DT) : 1 ≤ nodesD d := by cases d; simp only [nodesD]; omega
theorem greatF_nodes {cs : List DT} {d : DT} {most : Int} (h : greatF cs d most = false) : ((nodesDs cs + nodesD d : Nat) : Int) ≤ most := by
  simp only [greatF, Bool.or_eq_false_iff, decide_eq_false_iff_not] at h
  have h2 := h.2
  by_cases hd : weigh d most 200 ≤ most
  · have h1 := weigh_nodes d most 200 hd
    have h3 := weighs_nodes cs most 201 (weigh d most 200) (by omega)
    rw [h3, h1] at h2
    omega
  · rw [weighs_gt cs most 201 _ (by omega)] at h2
    omega
theorem greatD_nodes {d : DT} {most : Int} (h : decide (most < weigh d most 200) = false) : (nodesD d : Int) ≤ most := by
  have h2 : ¬ most < weigh d most 200 := by simpa using h
  have h1 := weigh_nodes d most 200 (by omega)
  omega

mutual
def in64D : DT → Prop
  | .node r i ks => In64 r ∧ In64 i ∧ in64Ds ks
def in64Ds : List DT → Prop
  | [] => True
  | k :: ks => in64D k ∧ in64Ds ks
end
theorem in64Ds_of : ∀ (ks : List DT), (∀ (j : Nat) (r i : Int) (l : List DT), ks[j]? = some (DT.node r i l) → In64 r ∧ In64 i ∧ in64Ds l) → in64Ds ks
  | [], _ => by simp [in64Ds]
  | .node r i l :: ks, h => by
    simp only [in64Ds, in64D]
    exact ⟨h 0 r i l rfl, in64Ds_of ks fun j r i l hj => h (j + 1) r i l (by simpa using hj)⟩
theorem RepK.in64 {w : World} {ks : List DT} {v : Value} (h : RepK w ks v) : in64Ds ks := by
  induction h with
  | nil => simp [in64Ds]
  | row b o c ks kv hn hb hc hk ih =>
    refine in64Ds_of ks fun j r i l hj => ?_
    obtain ⟨_, _, _, h1, h2⟩ := hc j r i l hj
    exact ⟨h1, h2, ih j r i l hj⟩

theorem itoa_le {i : Int} (h : In64 i) : (Lib.itoa i).length ≤ 20 := by
  obtain ⟨h1, h2⟩ := h
  have key : ∀ u : Nat, u < 10 ^ 19 → (Lib.decDigits u).length ≤ 19 := fun u hu => by
    rw [Lib.decDigits_length]; exact nDigits_le 18 u hu
  by_cases hn : 0 ≤ i
  · obtain ⟨u, rfl⟩ := Int.eq_ofNat_of_zero_le hn
    rw [Lib.itoa_nonneg]
    have := key u (by omega)
    omega
  · obtain ⟨u, rfl⟩ : ∃ u : Nat, i = -(u : Int) := ⟨i.natAbs, by omega⟩
    rw [Lib.itoa_neg u (by omega)]
    have := key u (by omega)
    simp only [List.length_cons]
    omega
mutual
theorem showD_le : ∀ (d : DT), in64D d → (showD d).length + 1 ≤ 32 * nodesD d
  | .node r i ks, h => by
    simp only [in64D] at h
    have h1 := itoa_le h.2.1
    have h2 := wordI_le r
    have h3 := showDs_le ks h.2.2
    have h4 : (if r = 1 ∨ r = 2 then 32 :: Lib.itoa i else []).length ≤ 21 := by
      split
      · simp; omega
      · simp
    simp only [showD, nodesD, List.length_cons, List.length_append, List.length_nil]
    omega
theorem showDs_le : ∀ (ks : List DT), in64Ds ks → (showDs ks).length ≤ 32 * nodesDs ks
  | [], _ => by simp [showDs]
  | k :: ks, h => by
    simp only [in64Ds] at h
    have h1 := showD_le k h.1
    have h2 := showDs_le ks h.2
    simp only [showDs, nodesDs, List.length_cons, List.length_append]
    omega
end
theorem showCtx_len : ∀ (cs : List DT), in64Ds cs → (showCtx cs).length ≤ 32 * nodesDs cs
  | [], _ => by simp [showCtx]
  | k :: ks, h => by
    have := showDs_le (k :: ks) h
    simp only [showDs, List.length_cons, List.length_append] at this
    simp only [showCtx, List.length_append]; omega
theorem showF_le {cs : List DT} {d : DT} (h1 : in64Ds cs) (h2 : in64D d) : (showF cs d).length ≤ 32 * (nodesDs cs + nodesD d) + 11 := by
  have := showCtx_len cs h1
  have := showD_le d h2
  simp only [showF, fileHead, List.length_append, List.length_cons, List.length_nil]; omega
end Go.Proofs.YtfpiogaakblpeaaDoor
