/- A region that draws its order and holds a call that panics: whatever order is drawn, it leaves by that panic. Over any program. -/
import Derived.Test.YtfpiogaakblpeaaDoorRegion
namespace Go.Proofs.YtfpiogaakblpeaaDoor
open Go.RowKit

section
variable {P : Program} {ops : Array Oper}

/-- a call that panics -/
def Panics (P : Program) (R : List PanicEntry → World → Prop) : Result Next → Prop
  | .ok (.enter f args) w' => Calls P f args w' fun e w'' => ∃ chain, e = .panicked chain ∧ R chain w''
  | _ => False

/-- operation n panics; those of late wait for it; all others are quiet -/
def PanY (P : Program) (ops : Array Oper) (x : World) (n : Nat) (late : List Nat) (R : List PanicEntry → World → Prop) (i : Nat) (a : Act) (v : Value) : Prop :=
  ∃ o, ops[i]? = some o ∧
    ((i = n ∧ ∀ m, Panics P R ((execOp a.eval o).run P (x.drewN m))) ∨ (i ≠ n ∧ late.contains i = true) ∨
     (i ≠ n ∧ late.contains i = false ∧ ∀ m, Still P x m v ((execOp a.eval o).run P (x.drewN m))))

theorem panY_congr (x : World) (n : Nat) (late : List Nat) (R : List PanicEntry → World → Prop) : Congr ops (PanY P ops x n late R) := by
  intro i o a a' v ho he ⟨o', ho', h⟩
  obtain rfl : o = o' := Option.some.inj (ho.symm.trans ho')
  refine ⟨o, ho, ?_⟩
  rw [he]
  exact h

def lateB (ops : Array Oper) (n : Nat) (late : List Nat) : Bool :=
  late.all fun i => match ops[i]? with
    | some o => o.after.toList.any fun e => Region.binds .any e && (n :: late).contains e.on
    | none => true

theorem put_defers (a : Act) (d : Option Nat) (v : Value) : (a.put d v).defers = a.defers := by cases d <;> rfl
theorem wpAny_panics {Q : Act → Prop} {Q' : Exit → Act → World → Prop} (x : World) (n : Nat) (late : List Nat) (R : List PanicEntry → World → Prop)
    (hn : ((ops[n]?).map fun o => o.guard == none) = some true) (hlate : lateB ops n late = true) (D : List Deferred) (hR : ∀ chain a w, a.defers = D → R chain w → Q' (.panic chain) a w) : ∀ (f : Nat) (listed : Array Bool) (a : Act) (m : Nat), listed.size = ops.size → toCome listed = f → a.defers = D →
    (∀ i ∈ n :: late, listed.getD i true = false ∨ ops.size ≤ i) → yAny .any ops (PanY P ops x n late R) Q f listed a → wpAny P .any ops Q' f listed a (x.drewN m)
  | 0, listed, a, m, hz, ht, hd, hun, h => by
    have hnlt : n < ops.size := by
      cases ho : ops[n]? with
      | none => rw [ho] at hn; cases hn
      | some o => exact (Array.getElem?_eq_some_iff.1 ho).1
    rcases hun n (by simp) with h1 | h1
    · have := toCome_set h1; omega
    · omega
  | f + 1, listed, a, m, hz, ht, hd, hun, h => by
    have hnlt : n < ops.size := by
      cases ho : ops[n]? with
      | none => rw [ho] at hn; cases hn
      | some o => exact (Array.getElem?_eq_some_iff.1 ho).1
    refine ⟨fun h0 => absurd h0 h.1, fun i hi => ?_⟩
    obtain ⟨hiun, o, ho, hall⟩ := mem_ready.1 hi
    have hilt : i < ops.size := (Array.getElem?_eq_some_iff.1 ho).1
    have h2 := h.2 i hi
    have ht2 : toCome (listed.setIfInBounds i true) = f := by have := toCome_set hiun; omega
    have hz2 : (listed.setIfInBounds i true).size = ops.size := by simpa using hz
    unfold yOp at h2
    unfold wpOp
    simp only [ho] at h2 ⊢
    by_cases hin : i = n
    · subst hin
      rw [ho] at hn
      have hg : o.guard = none := by simpa using hn
      have hw : Region.wanted o (yielded ops a.tmps) = true := by simp [Region.wanted, hg]
      rw [if_pos hw] at h2 ⊢
      obtain ⟨v, ⟨o', ho', hY⟩, hK⟩ := h2
      obtain rfl : o = o' := Option.some.inj (ho.symm.trans ho')
      rcases hY with ⟨_, hY⟩ | ⟨hne, _⟩ | ⟨hne, _⟩
      · have h3 := hY m
        refine .inl ?_
        unfold Oper.wp
        generalize (execOp a.eval o).run P (x.drewN m) = r at h3
        cases r with
        | ok nx w' =>
          cases nx <;> simp only [Panics] at h3 <;> simp only [Oper.upon]
          case enter f args => exact h3.mono fun e w'' ⟨chain, he, hr⟩ => by subst he; exact hR chain _ _ hd hr
        | halt y w' => simp only [Panics] at h3
      · exact absurd rfl hne
      · exact absurd rfl hne
    · have hnl : late.contains i = false := by
        cases hl : late.contains i with
        | false => rfl
        | true =>
          exfalso
          have hm : i ∈ late := by simpa using hl
          have h3 := List.all_eq_true.1 hlate i hm
          simp only [ho] at h3
          obtain ⟨e, he, h4⟩ := List.any_eq_true.1 h3
          rw [Bool.and_eq_true] at h4
          have h5 := hall e (by simpa using he) h4.1
          have hon : e.on ∈ n :: late := by simpa using h4.2
          rcases hun e.on hon with h6 | h6
          · have h7 := getD_lt h6
            simp [h7] at h5 h6
            rw [h6] at h5
            cases h5
          · rw [← hz] at h6
            simp [Array.getElem?_eq_none h6] at h5
      have hun2 : ∀ j ∈ n :: late, (listed.setIfInBounds i true).getD j true = false ∨ ops.size ≤ j := by
        intro j hj
        have hji : j ≠ i := by
          intro e
          subst e
          rcases List.mem_cons.1 hj with e | e
          · exact hin e
          · rw [List.contains_eq_mem] at hnl
            simp [e] at hnl
        rcases hun j hj with h6 | h6
        · left; rw [getD_set_ne true (Ne.symm hji)]; exact h6
        · exact .inr h6
      by_cases hw : Region.wanted o (yielded ops a.tmps) = true
      · rw [if_pos hw] at h2 ⊢
        obtain ⟨v, ⟨o', ho', hY⟩, hK⟩ := h2
        obtain rfl : o = o' := Option.some.inj (ho.symm.trans ho')
        rcases hY with ⟨e, _⟩ | ⟨_, e⟩ | ⟨_, _, hY⟩
        · exact absurd e hin
        · rw [hnl] at e; cases e
        · refine .inl ?_
          have h3 := hY m
          have h4 : Leaves P (fun w' => ∃ m, w' = x.drewN m) v ((execOp a.eval o).run P (x.drewN m)) := by
            generalize (execOp a.eval o).run P (x.drewN m) = r at h3
            cases r with
            | ok y w' =>
              cases y <;> simp only [Still] at h3 <;> simp only [Leaves]
              case value u => exact ⟨⟨m, h3.1⟩, h3.2⟩
              case skip => exact ⟨⟨m, h3.1⟩, h3.2⟩
              case enter f args => exact h3.2
            | halt y w' => simp only [Still] at h3
          refine wp_of_leaves h4 fun w' hw' => ?_
          obtain ⟨m', rfl⟩ := hw'
          exact wpAny_panics x n late R hn hlate D hR f _ _ m' hz2 ht2 ((put_defers _ _ _).trans hd) hun2 hK
      · rw [if_neg hw] at h2 ⊢
        exact wpAny_panics x n late R hn hlate D hR f _ _ m hz2 ht2 ((put_defers _ _ _).trans hd) hun2 h2

theorem wp_region_pan_lit {id : Nat} {Q : Exit → Act → World → Prop} {a : Act} {w : World} {l : List Oper} (n : Nat) (late : List Nat) (R : List PanicEntry → World → Prop) (hm : P.follows .mixedOrders = true) (hB : Region.lexB .any l.toArray = true)
    (hn : ((l.toArray[n]?).map fun o => o.guard == none) = some true) (hlate : lateB l.toArray n late = true) (hR : ∀ chain a' w, a'.defers = a.defers → R chain w → Q (.panic chain) a' w)
    (h : yLex l.toArray (PanY P l.toArray w n late R) (fun _ => True) 0 l a) : (Code.region id l.toArray true).wp P Q a w := by
  simp only [Region.lexB, Bool.and_eq_true] at hB
  have h2 := yAny_lex (md := .any) (panY_congr w n late R) hB.1 l.toArray.toList 0 (Array.replicate l.toArray.size false) a (by simp) (by simpa using hB.2) (by simpa using h)
  refine wp_region_any hm (wpAny_panics w n late R hn hlate a.defers hR _ (Array.replicate l.toArray.size false) a 1 (by simp) (by simp [toCome]) rfl (fun i _ => ?_) (by simpa using h2))
  by_cases hi : i < l.toArray.size
  · left; simp at hi; simp [hi]
  · right; omega

theorem pan_still {Q : Act → Prop} {x : World} {n k : Nat} {late : List Nat} {R : List PanicEntry → World → Prop} {o : Oper} {rest : List Oper} {a : Act} (hne : (k == n) = false) (hl : late.contains k = false) (ho : ops[k]? = some o)
    (h : ∀ K : Act → Prop, (∀ a, yLex ops (PanY P ops x n late R) Q (k + 1) rest a → K a) →
      if Region.wanted o (yielded ops a.tmps) then (∃ v, (∀ m, Still P x m v ((execOp a.eval o).run P (x.drewN m))) ∧ K (a.put o.dst v)) else K (a.put o.dst undef)) :
    yLex ops (PanY P ops x n late R) Q k (o :: rest) a := by
  have h2 := h _ (fun _ h => h)
  unfold yLex
  split
  · rename_i hw
    rw [if_pos hw] at h2
    obtain ⟨v, h3, h4⟩ := h2
    exact ⟨v, ⟨o, ho, .inr (.inr ⟨by simpa using hne, hl, h3⟩)⟩, h4⟩
  · rename_i hw
    rw [if_neg hw] at h2
    exact h2
theorem pan_late {Q : Act → Prop} {x : World} {n k : Nat} {late : List Nat} {R : List PanicEntry → World → Prop} {o : Oper} {rest : List Oper} {a : Act} (hne : (k == n) = false) (hl : late.contains k = true) (ho : ops[k]? = some o) (hg : o.guard = none)
    (h : yLex ops (PanY P ops x n late R) Q (k + 1) rest (a.put o.dst undef)) : yLex ops (PanY P ops x n late R) Q k (o :: rest) a := by
  unfold yLex
  rw [if_pos (by simp [Region.wanted, hg])]
  exact ⟨undef, ⟨o, ho, .inr (.inl ⟨by simpa using hne, hl⟩)⟩, h⟩
theorem pan_call {Q : Act → Prop} {x : World} {n k : Nat} {late : List Nat} {R : List PanicEntry → World → Prop} {o : Oper} {rest : List Oper} {a : Act} (hk : (k == n) = true) (ho : ops[k]? = some o) (hg : o.guard = none)
    (h1 : ∀ m, Panics P R ((execOp a.eval o).run P (x.drewN m)))
    (h : yLex ops (PanY P ops x n late R) Q (k + 1) rest (a.put o.dst undef)) : yLex ops (PanY P ops x n late R) Q k (o :: rest) a := by
  unfold yLex
  rw [if_pos (by simp [Region.wanted, hg])]
  exact ⟨undef, ⟨o, ho, .inl ⟨by simpa using hk, h1⟩⟩, h⟩
end
attribute [go_sem] Panics
end Go.Proofs.YtfpiogaakblpeaaDoor
