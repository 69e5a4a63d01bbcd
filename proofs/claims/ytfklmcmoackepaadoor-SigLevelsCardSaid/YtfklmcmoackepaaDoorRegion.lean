/- A region that draws its order, all of whose operations but one leave the world alone (they compute, read, or call what does), and one of whose operations writes what no other of them reads: whatever order is drawn, it ends as the text's order does. Over any program. -/
import Derived.WalkKit
import Derived.Deep.Quiet
namespace Go.Proofs.YtfklmcmoackepaaDoor
open Go.RowKit

section
variable {P : Program} {ops : Array Oper} {md : Region.Mode} {Y : Nat → Act → Value → Prop}

/-- operation i comes up in the frame a: Y tells what it yields -/
def yOp (ops : Array Oper) (Y : Nat → Act → Value → Prop) (i : Nat) (K : Act → Prop) (a : Act) : Prop :=
  match ops[i]? with
  | none => K a
  | some o => if Region.wanted o (yielded ops a.tmps) = true then ∃ v, Y i a v ∧ K (a.put o.dst v) else K (a.put o.dst undef)

/-- whatever order is drawn -/
def yAny (md : Region.Mode) (ops : Array Oper) (Y : Nat → Act → Value → Prop) (Q : Act → Prop) : Nat → Array Bool → Act → Prop
  | 0, listed, a => Region.ready md ops listed = [] ∧ Q a
  | f + 1, listed, a => Region.ready md ops listed ≠ [] ∧ ∀ i ∈ Region.ready md ops listed, yOp ops Y i (yAny md ops Y Q f (listed.setIfInBounds i true)) a

/-- the text's order -/
def yLex (ops : Array Oper) (Y : Nat → Act → Value → Prop) (Q : Act → Prop) : Nat → List Oper → Act → Prop
  | _, [], a => Q a
  | k, o :: rest, a => if Region.wanted o (yielded ops a.tmps) = true then ∃ v, Y k a v ∧ yLex ops Y Q (k + 1) rest (a.put o.dst v) else yLex ops Y Q (k + 1) rest (a.put o.dst undef)

/-- Y looks at the frame through the operation's operands alone -/
def Congr (ops : Array Oper) (Y : Nat → Act → Value → Prop) : Prop :=
  ∀ (i : Nat) (o : Oper) (a a' : Act) (v : Value), ops[i]? = some o → execOp a'.eval o = execOp a.eval o → Y i a v → Y i a' v

theorem yOp_mono {i : Nat} {K K' : Act → Prop} {a : Act} (h : ∀ a, K a → K' a) (hh : yOp ops Y i K a) : yOp ops Y i K' a := by
  unfold yOp at *
  cases ho : ops[i]? with
  | none => simp only [ho] at hh ⊢; exact h _ hh
  | some o =>
    simp only [ho] at hh ⊢
    split
    · rename_i hw
      rw [if_pos hw] at hh
      obtain ⟨v, h1, h2⟩ := hh
      exact ⟨v, h1, h _ h2⟩
    · rename_i hw
      rw [if_neg hw] at hh
      exact h _ hh

/-- what operation i yields in the frame a: v -/
def Gives (ops : Array Oper) (Y : Nat → Act → Value → Prop) (i : Nat) (o : Oper) (v : Value) (a : Act) : Prop :=
  (Region.wanted o (yielded ops a.tmps) = true ∧ Y i a v) ∨ (Region.wanted o (yielded ops a.tmps) = false ∧ v = undef)

theorem Gives.op {i : Nat} {o : Oper} {v : Value} {a : Act} (hi : ops[i]? = some o) (hy : Gives ops Y i o v a) {K : Act → Prop} (h : K (a.put o.dst v)) : yOp ops Y i K a := by
  unfold yOp
  simp only [hi]
  rcases hy with ⟨hw, hv⟩ | ⟨hw, rfl⟩
  · rw [if_pos hw]; exact ⟨v, hv, h⟩
  · rw [if_neg (by simp [hw])]; exact h

theorem gives_of_op {i : Nat} {o : Oper} {a : Act} {K : Act → Prop} (hi : ops[i]? = some o) (h : yOp ops Y i K a) : ∃ v, Gives ops Y i o v a ∧ K (a.put o.dst v) := by
  unfold yOp at h
  simp only [hi] at h
  by_cases hw : Region.wanted o (yielded ops a.tmps) = true
  · rw [if_pos hw] at h
    obtain ⟨v, h1, h2⟩ := h
    exact ⟨v, .inl ⟨hw, h1⟩, h2⟩
  · rw [if_neg hw] at h
    exact ⟨undef, .inr ⟨by simpa using hw, rfl⟩, h⟩

/-- operation j, apart from i: it makes no difference whether i's value lies in its slot already -/
theorem yOp_put (hc : Congr ops Y) {i j : Nat} {oi oj : Oper} {v : Value} (hi : ops[i]? = some oi) (hj : ops[j]? = some oj) (hap : oi.apart ops oj = true)
    (hsi : ∀ cs b, oi.op ≠ .select cs b) (hsj : ∀ cs b, oj.op ≠ .select cs b) {K : Act → Prop} {a : Act}
    (hy : Gives ops Y i oi v a) (h : yOp ops Y j K (a.put oi.dst v)) : yOp ops Y j (fun a' => Gives ops Y i oi v a' ∧ K (a'.put oi.dst v)) a := by
  obtain ⟨h1, h2, h3⟩ := Oper.apart_spec hap
  have keep : ∀ u, Gives ops Y i oi v (a.put oj.dst u) := fun u => by
    rcases hy with ⟨hw, hv⟩ | ⟨hw, hv⟩
    · exact .inl ⟨by rw [wanted_put oi a oj.dst u h3]; exact hw, hc i oi a _ v hi (execOp_put oi hsi a oj.dst u h3) hv⟩
    · exact .inr ⟨by rw [wanted_put oi a oj.dst u h3]; exact hw, hv⟩
  obtain ⟨u, hu, hK⟩ := gives_of_op hj h
  have hu' : Gives ops Y j oj u a := by
    rcases hu with ⟨hw, hv⟩ | ⟨hw, hv⟩
    · exact .inl ⟨by rw [wanted_put oj a oi.dst v h1] at hw; exact hw, hc j oj _ a u hj (execOp_put oj hsj a oi.dst v h1).symm hv⟩
    · exact .inr ⟨by rw [wanted_put oj a oi.dst v h1] at hw; exact hw, hv⟩
  exact hu'.op hj ⟨keep u, by rw [← Act.put_comm a v u h2]; exact hK⟩

/-- an operation that may come up now may be taken first, if every other one that is still to come waits for it or is apart from it -/
theorem yAny_first (hc : Congr ops Y) {Q : Act → Prop} {i : Nat} {oi : Oper} {v : Value} (hi : ops[i]? = some oi) (hsel : ∀ (j : Nat) (o : Oper) cs b, ops[j]? = some o → o.op ≠ .select cs b) :
    ∀ (f : Nat) (listed : Array Bool) (a : Act),
      (∀ j oj, ops[j]? = some oj → j ≠ i → listed.getD j true = false → (∀ e ∈ oj.after, Region.binds md e = true → e.on ≠ i) → oi.apart ops oj = true) →
      i ∈ Region.ready md ops listed → Gives ops Y i oi v a →
      yAny md ops Y Q f (listed.setIfInBounds i true) (a.put oi.dst v) → yAny md ops Y Q (f + 1) listed a := by
  intro f
  induction f with
  | zero =>
    intro listed a _ hr hy H
    refine ⟨fun h => (by rw [h] at hr; cases hr), fun j hj => ?_⟩
    by_cases hji : j = i
    · subst hji; exact hy.op hi H
    · have h1 := ready_mono hj hji
      rw [H.1] at h1
      cases h1
  | succ f ih =>
    intro listed a hfree hr hy H
    refine ⟨fun h => (by rw [h] at hr; cases hr), fun j hj => ?_⟩
    by_cases hji : j = i
    · subst hji; exact hy.op hi H
    obtain ⟨hjun, oj, hoj, hall⟩ := mem_ready.1 hj
    have hi0 := (mem_ready.1 hr).1
    have hnot : ∀ e ∈ oj.after, Region.binds md e = true → e.on ≠ i := fun e he hb heq => by
      have h1 := hall e he hb
      rw [heq] at h1
      rcases Nat.lt_or_ge i listed.size with h' | h'
      · simp [h'] at hi0 h1; rw [hi0] at h1; cases h1
      · simp [Array.getElem?_eq_none h'] at h1
    have h2 := yOp_put hc hi hoj (hfree j oj hoj hji hjun hnot) (fun cs b => hsel i oi cs b hi) (fun cs b => hsel j oj cs b hoj) hy (H.2 j (ready_mono hj hji))
    refine yOp_mono (fun a' h3 => ih (listed.setIfInBounds j true) a' ?_ (ready_mono hr (Ne.symm hji)) h3.1 ?_) h2
    · intro k ok hk hki hun hno
      refine hfree k ok hk hki ?_ hno
      by_cases hjk : j = k
      · subst hjk; exact hjun
      · rw [getD_set_ne true hjk] at hun; exact hun
    · rw [Array.setIfInBounds_comm _ _ hji]
      exact h3.2

theorem yAny_lex (hc : Congr ops Y) {Q : Act → Prop} (hs : Region.noSelect ops = true) : ∀ (l : List Oper) (k : Nat) (listed : Array Bool) (a : Act), (∀ j, l[j]? = ops[k + j]?) →
    Region.lexFrom md ops l.length k listed = true → yLex ops Y Q k l a → yAny md ops Y Q l.length listed a
  | [], _, _, _, _, hB, h => ⟨by simpa [Region.lexFrom] using hB, h⟩
  | o :: l, k, listed, a, hl, hB, h => by
    have h0 : ops[k]? = some o := by simpa using (hl 0).symm
    simp only [List.length_cons, Region.lexFrom, Bool.and_eq_true] at hB
    obtain ⟨⟨hr, hf⟩, hB'⟩ := hB
    have hst : yOp ops Y k (yLex ops Y Q (k + 1) l) a := by unfold yOp; simp only [h0]; exact h
    obtain ⟨v, hy, hK⟩ := gives_of_op h0 hst
    exact yAny_first hc h0 (Region.noSelect_spec hs) l.length listed a (Region.free_spec h0 hf) (by simpa using hr) hy
      (yAny_lex hc hs l (k + 1) _ _ (fun j => by have := hl (j + 1); simpa [Nat.add_assoc, Nat.add_comm 1 j] using this) hB' hK)

theorem yLex_mono {Q Q' : Act → Prop} (hq : ∀ a, Q a → Q' a) : ∀ (l : List Oper) (k : Nat) (a : Act), yLex ops Y Q k l a → yLex ops Y Q' k l a
  | [], _, _, h => hq _ h
  | o :: l, k, a, h => by
    unfold yLex at *
    split
    · rename_i hw
      rw [if_pos hw] at h
      obtain ⟨v, h1, h2⟩ := h
      exact ⟨v, h1, yLex_mono hq l _ _ h2⟩
    · rename_i hw
      rw [if_neg hw] at h
      exact yLex_mono hq l _ _ h

theorem getD_lt {listed : Array Bool} {i : Nat} (h : listed.getD i true = false) : i < listed.size := by
  rcases Nat.lt_or_ge i listed.size with h' | h'
  · exact h'
  · simp [Array.getElem?_eq_none h'] at h
theorem getD_low {listed : Array Bool} {i : Nat} (h : listed.getD i true = false) : listed.getD i false = false := by
  have := getD_lt h
  simp [this] at h ⊢
  exact h

/-- what an operation may come to: it yields v and leaves a world of D -/
def Leaves (P : Program) (D : World → Prop) (v : Value) : Result Next → Prop
  | .ok (.value u) w' => D w' ∧ u = v
  | .ok .skip w' => D w' ∧ v = undef
  | .ok (.enter f args) w' => Calls P f args w' fun e w'' => e = .returned v ∧ D w''
  | _ => False

theorem wp_of_leaves {o : Oper} {a : Act} {v : Value} {D : World → Prop} {K' : Act → World → Prop} {Q' : Exit → Act → World → Prop} {w : World}
    (h : Leaves P D v ((execOp a.eval o).run P w)) (hK : ∀ w', D w' → K' (a.put o.dst v) w') : o.wp P a w K' Q' := by
  unfold Oper.wp
  generalize (execOp a.eval o).run P w = r at h
  cases r with
  | ok n w' =>
    cases n <;> simp only [Leaves] at h <;> simp only [Oper.upon]
    case value u => obtain ⟨h1, rfl⟩ := h; exact hK _ h1
    case skip => obtain ⟨h1, rfl⟩ := h; exact hK _ h1
    case enter f args => exact h.mono fun e w'' ⟨he, hd⟩ => by subst he; exact hK _ hd
  | halt x w' => simp only [Leaves] at h

/-- how many are still to come -/
def toCome (listed : Array Bool) : Nat := listed.toList.count false
theorem toCome_set {listed : Array Bool} {i : Nat} (h : listed.getD i true = false) : toCome listed = toCome (listed.setIfInBounds i true) + 1 := by
  have hi : i < listed.size := by
    rcases Nat.lt_or_ge i listed.size with h' | h'
    · exact h'
    · simp [Array.getElem?_eq_none h'] at h
  have hv : listed[i] = false := by simpa [hi] using h
  unfold toCome
  rw [Array.toList_setIfInBounds]
  have e : listed.toList = listed.toList.take i ++ false :: listed.toList.drop (i + 1) := by
    have h1 : i < listed.toList.length := by simpa using hi
    conv => lhs; rw [← List.take_append_drop i listed.toList, List.drop_eq_getElem_cons h1]
    simp [hv]
  have e2 : listed.toList.set i true = listed.toList.take i ++ true :: listed.toList.drop (i + 1) := by
    rw [List.set_eq_take_append_cons_drop, if_pos (by simpa using hi)]
  rw [e2]
  conv => lhs; rw [e]
  simp [List.count_append]
  omega

/-- it is a wpAny, in every world that the listed operations leave -/
theorem wpAny_of_yAny {Q : Act → Prop} {Q' : Exit → Act → World → Prop} (C : Array Bool → World → Prop)
    (hsound : ∀ (i : Nat) (o : Oper) (a : Act) (v : Value) (listed : Array Bool) (w : World), ops[i]? = some o → listed.getD i true = false → Y i a v → C listed w → Leaves P (C (listed.setIfInBounds i true)) v ((execOp a.eval o).run P w))
    (hskip : ∀ (i : Nat) (o : Oper) (listed : Array Bool) (w : World), ops[i]? = some o → o.guard ≠ none → C listed w → C (listed.setIfInBounds i true) w)
    (hQ : ∀ listed a w, (∀ j, j < ops.size → listed.getD j false = true) → C listed w → Q a → Q' .normal a w) : ∀ (f : Nat) (listed : Array Bool) (a : Act) (w : World), listed.size = ops.size → toCome listed = f → C listed w →
    yAny md ops Y Q f listed a → wpAny P md ops Q' f listed a w
  | 0, listed, a, w, hz, hn, hC, h => by
    refine ⟨h.1, hQ _ _ _ (fun j hj => ?_) hC h.2⟩
    cases hl : listed.getD j true with
    | true => rw [← hz] at hj; simp [hj] at hl ⊢; exact hl
    | false => have := toCome_set hl; omega
  | f + 1, listed, a, w, hz, hn, hC, h => by
    refine ⟨fun h0 => ?_, fun i hi => ?_⟩
    · exact absurd h0 h.1
    · have hun := (mem_ready.1 hi).1
      have h2 := h.2 i hi
      have hn2 : toCome (listed.setIfInBounds i true) = f := by have := toCome_set hun; omega
      have hz2 : (listed.setIfInBounds i true).size = ops.size := by simpa using hz
      unfold yOp at h2
      unfold wpOp
      cases ho : ops[i]? with
      | none => have := (mem_ready.1 hi).2; rw [ho] at this; obtain ⟨_, h3, _⟩ := this; cases h3
      | some o =>
        simp only [ho] at h2 ⊢
        by_cases hw : Region.wanted o (yielded ops a.tmps) = true
        · rw [if_pos hw] at h2 ⊢
          obtain ⟨v, hv, hK⟩ := h2
          exact .inl (wp_of_leaves (hsound i o a v listed w ho hun hv hC) fun w' hw' => wpAny_of_yAny C hsound hskip hQ f _ _ w' hz2 hn2 hw' hK)
        · rw [if_neg hw] at h2 ⊢
          have hg : o.guard ≠ none := fun hg => hw (by simp [Region.wanted, hg])
          exact wpAny_of_yAny C hsound hskip hQ f _ _ w hz2 hn2 (hskip i o listed w ho hg hC) h2

/-- the region's wp -/
theorem wp_region_y {id : Nat} {Q : Exit → Act → World → Prop} {a : Act} {w : World} (C : Array Bool → World → Prop) (hm : P.follows .mixedOrders = true) (hB : Region.lexB .any ops = true) (hc : Congr ops Y)
    (hC : C (Array.replicate ops.size false) { w with drawn := w.drawn + 1 })
    (hsound : ∀ (i : Nat) (o : Oper) (a : Act) (v : Value) (listed : Array Bool) (w : World), ops[i]? = some o → listed.getD i true = false → Y i a v → C listed w → Leaves P (C (listed.setIfInBounds i true)) v ((execOp a.eval o).run P w))
    (hskip : ∀ (i : Nat) (o : Oper) (listed : Array Bool) (w : World), ops[i]? = some o → o.guard ≠ none → C listed w → C (listed.setIfInBounds i true) w)
    (h : yLex ops Y (fun a' => ∀ listed w', (∀ j, j < ops.size → listed.getD j false = true) → C listed w' → Q .normal a' w') 0 ops.toList a) : (Code.region id ops true).wp P Q a w := by
  simp only [Region.lexB, Bool.and_eq_true] at hB
  refine wp_region_any hm (wpAny_of_yAny (Y := Y) (Q := fun a' => ∀ listed w', (∀ j, j < ops.size → listed.getD j false = true) → C listed w' → Q .normal a' w') C hsound hskip (fun listed a' w' h1 h2 h3 => h3 listed w' h1 h2) _ _ _ _ (by simp) (by simp [toCome]) hC ?_)
  have := yAny_lex (md := .any) hc hB.1 ops.toList 0 (Array.replicate ops.size false) a (by simp) (by simpa using hB.2) h
  simpa using this

/-- before the one effect, or behind it -/
inductive Side where
  | ahead
  | behind
deriving Inhabited, DecidableEq
def sideOf (b : Bool) : Side := if b then .behind else .ahead

/-- what a quiet operation may come to, in the world x behind some draws -/
def Still (P : Program) (x : World) (m : Nat) (v : Value) : Result Next → Prop
  | .ok (.value u) w' => w' = x.drewN m ∧ u = v
  | .ok .skip w' => w' = x.drewN m ∧ v = undef
  | .ok (.enter f args) w' => w' = x.drewN m ∧ Calls P f args w' fun e w'' => e = .returned v ∧ ∃ m', w'' = x.drewN m'
  | _ => False

/-- one effect: operation n turns the world 'base ahead' into 'base behind'; all others are quiet in both -/
def OneY (P : Program) (ops : Array Oper) (n : Nat) (base : Side → World) (i : Nat) (a : Act) (v : Value) : Prop :=
  ∃ o, ops[i]? = some o ∧
    ((i = n ∧ v = undef ∧ ∀ m, (execOp a.eval o).run P ((base .ahead).drewN m) = .ok .skip ((base .behind).drewN m)) ∨
     (i ≠ n ∧ ∀ b m, Still P (base b) m v ((execOp a.eval o).run P ((base b).drewN m))))

theorem oneY_congr (n : Nat) (base : Side → World) : Congr ops (OneY P ops n base) := by
  intro i o a a' v ho he ⟨o', ho', h⟩
  obtain rfl : o = o' := Option.some.inj (ho.symm.trans ho')
  refine ⟨o, ho, ?_⟩
  rw [he]
  exact h

theorem wp_region_one {id : Nat} {Q : Exit → Act → World → Prop} {a : Act} {w : World} (n : Nat) (base : Side → World) (hm : P.follows .mixedOrders = true) (hB : Region.lexB .any ops = true)
    (hn : ((ops[n]?).map fun o => o.guard == none) = some true) (hw : w = base .ahead)
    (h : yLex ops (OneY P ops n base) (fun a' => ∀ m, Q .normal a' ((base .behind).drewN m)) 0 ops.toList a) : (Code.region id ops true).wp P Q a w := by
  subst hw
  have hnlt : n < ops.size := by
    cases ho : ops[n]? with
    | none => rw [ho] at hn; cases hn
    | some o => exact (Array.getElem?_eq_some_iff.1 ho).1
  refine wp_region_y (Y := OneY P ops n base) (fun listed w => ∃ m, w = (base (sideOf (listed.getD n false))).drewN m) hm hB (oneY_congr n base) ⟨1, ?_⟩ ?_ ?_ ?_
  · simp [hnlt]; rfl
  · rintro i o a v listed w ho hun ⟨o', ho', hY⟩ ⟨m, rfl⟩
    obtain rfl : o = o' := Option.some.inj (ho.symm.trans ho')
    rcases hY with ⟨rfl, rfl, hY⟩ | ⟨hne, hY⟩
    · have hl : listed.getD i false = false := getD_low hun
      have hl2 : (listed.setIfInBounds i true).getD i false = true := by
        have : i < listed.size := getD_lt hun
        simp [this]
      rw [hl, show sideOf false = .ahead from rfl, hY m]
      exact ⟨⟨m, by rw [hl2]; rfl⟩, rfl⟩
    · have hl : (listed.setIfInBounds i true).getD n false = listed.getD n false := getD_set_ne false hne
      have h2 := hY (sideOf (listed.getD n false)) m
      generalize (execOp a.eval o).run P ((base (sideOf (listed.getD n false))).drewN m) = r at h2
      rw [hl]
      cases r with
      | ok x w' =>
        cases x <;> simp only [Still] at h2 <;> simp only [Leaves]
        case value u => exact ⟨⟨m, h2.1⟩, h2.2⟩
        case skip => exact ⟨⟨m, h2.1⟩, h2.2⟩
        case enter f args => exact h2.2
      | halt x w' => simp only [Still] at h2
  · rintro i o listed w ho hg ⟨m, rfl⟩
    refine ⟨m, ?_⟩
    by_cases hin : i = n
    · subst hin
      rw [ho] at hn
      simp at hn
      exact absurd (by simpa using hn) hg
    · rw [getD_set_ne false hin]
  · refine yLex_mono (fun a' h1 listed w' hl hw' => ?_) _ _ _ h
    obtain ⟨m, rfl⟩ := hw'
    rw [hl n hnlt]
    exact h1 m

theorem wp_region_one_lit {id : Nat} {Q : Exit → Act → World → Prop} {a : Act} {w : World} {l : List Oper} (n : Nat) (base : Side → World) (hm : P.follows .mixedOrders = true) (hB : Region.lexB .any l.toArray = true)
    (hn : ((l.toArray[n]?).map fun o => o.guard == none) = some true) (hw : w = base .ahead)
    (h : yLex l.toArray (OneY P l.toArray n base) (fun a' => ∀ m, Q .normal a' ((base .behind).drewN m)) 0 l a) : (Code.region id l.toArray true).wp P Q a w :=
  wp_region_one n base hm hB hn hw (by simpa using h)

theorem yLex_end {Q : Act → Prop} {k : Nat} {a : Act} (h : Q a) : yLex ops Y Q k [] a := h

/-- a quiet operation -/
theorem yLex_still {Q : Act → Prop} {n k : Nat} {base : Side → World} {o : Oper} {rest : List Oper} {a : Act} (hne : (k == n) = false) (ho : ops[k]? = some o)
    (h : ∀ K : Act → Prop, (∀ a, yLex ops (OneY P ops n base) Q (k + 1) rest a → K a) →
      if Region.wanted o (yielded ops a.tmps) then (∃ v, (∀ b m, Still P (base b) m v ((execOp a.eval o).run P ((base b).drewN m))) ∧ K (a.put o.dst v)) else K (a.put o.dst undef)) :
    yLex ops (OneY P ops n base) Q k (o :: rest) a := by
  have h2 := h _ (fun _ h => h)
  unfold yLex
  split
  · rename_i hw
    rw [if_pos hw] at h2
    obtain ⟨v, h3, h4⟩ := h2
    exact ⟨v, ⟨o, ho, .inr ⟨by simpa using hne, h3⟩⟩, h4⟩
  · rename_i hw
    rw [if_neg hw] at h2
    exact h2

/-- the one that writes -/
theorem yLex_write {Q : Act → Prop} {n k : Nat} {base : Side → World} {o : Oper} {rest : List Oper} {a : Act} (hk : (k == n) = true) (ho : ops[k]? = some o) (hg : o.guard = none)
    (h1 : ∀ m, (execOp a.eval o).run P ((base .ahead).drewN m) = .ok .skip ((base .behind).drewN m))
    (h : yLex ops (OneY P ops n base) Q (k + 1) rest (a.put o.dst undef)) : yLex ops (OneY P ops n base) Q k (o :: rest) a := by
  unfold yLex
  rw [if_pos (by simp [Region.wanted, hg])]
  exact ⟨undef, ⟨o, ho, .inl ⟨by simpa using hk, rfl, h1⟩⟩, h⟩
end
attribute [go_sem] Still
attribute [irreducible] yLex
end Go.Proofs.YtfklmcmoackepaaDoor
