/- The plain law of transhiplaw14.ShowFixed. -/
import Derived.Test.YtfpiogaakblpeaaDoorLaw14c
import Derived.Test.YtfpiogaakblpeaaDoorLaw13b
namespace Go.Proofs.YtfpiogaakblpeaaDoor
open Go.RowKit

mutual
theorem nodes_tok : ∀ (d : DT), 3 * nodesD d ≤ (tokD d).length
  | .node r i ks => by have := nodess_tok ks; simp only [nodesD, tokD, List.length_cons, List.length_append, List.length_nil]; omega
theorem nodess_tok : ∀ (ks : List DT), 3 * nodesDs ks ≤ (tokDs ks).length
  | [] => by simp [nodesDs]
  | k :: ks => by have := nodes_tok k; have := nodess_tok ks; simp only [nodesDs, tokDs, List.length_append]; omega
end

theorem back_facts2 {cs : List DT} {d : DT} (hc : rightDs cs = true) (hr : rightD d = true) (hn : nodesDs cs + nodesD d ≤ 1000) :
    ∃ toks k n, lexL (showF cs d) = (toks, none) ∧ toks.map kt = tokF cs d ∧ wholeM (fun m => withinB m 4787326403894837248) (fun m => withinB m 4787326403894837248) (showF cs d) = .ok (cs, d) k n := by
  have h := lexE_file cs d hc hr
  unfold lexE eraseX at h
  obtain ⟨h3, h4⟩ := Prod.mk.inj h
  have hdd : max (deepDs cs) (deepD d) ≤ 1000 := by
    have h1 := deep_le_nodes d
    have h2 := deeps_le_nodes cs
    omega
  obtain ⟨k, n, h5⟩ := wholeM_back (dOK := fun m => withinB m 4787326403894837248) (nOK := fun m => withinB m 4787326403894837248) (M := 1000) (fun m hm => within_small m (by omega)) (fun m hm => within_small m (by omega)) hc hr hdd hn
  refine ⟨_, k, n, ?_, h3, h5⟩
  have h6 : (lexL (showF cs d)).2 = none := by simpa using h4
  rw [← h6]

theorem fixed_facts {text : List UInt8} {dOK nOK : Nat → Bool} {cs : List DT} {d : DT} {k n : Nat} (h : wholeM dOK nOK text = .ok (cs, d) k n) (hz : text.length ≤ 3000) :
    ∃ toks, lexL text = (toks, none) ∧ toks.map kt = tokF cs d ∧ rightDs cs = true ∧ rightD d = true ∧ nodesDs cs + nodesD d ≤ 1000 := by
  obtain ⟨h1, h2⟩ := wholeM_ok h
  have h3 := fileM_tok (tokOK_lexL text) h1
  obtain ⟨h4, h5⟩ := fileM_right h1
  have h6 := lexL_length text
  have h7 := congrArg List.length h3
  have h8 := nodes_tok d
  have h9 := nodess_tok cs
  simp only [List.length_map, tokF, List.length_cons, List.length_append, List.length_nil] at h7
  exact ⟨_, Prod.ext rfl h2, h3, h4, h5, by omega⟩
end Go.Proofs.YtfpiogaakblpeaaDoor
