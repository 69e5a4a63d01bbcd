/- Calls that were reckoned beforehand: what the looks over the literals say. Calls that were reckoned beforehand: what they say in a larger heap. -/
import Derived.Test.YtgedmmmgkfehjaaGreatDoorRg
import Derived.Test.YtgedmmmgkfehjaaGreatDoorZa
import Derived.Test.YtgedmmmgkfehjaaGreatDoorZg
namespace Go.Proofs.YtgedmmmgkfehjaaGreatDoor

theorem eqOpt_eq {α : Type} {eq : α → α → Bool} (h : ∀ x y, eq x y = true → x = y) {x y : Option α} (hx : eqOpt eq x y = true) : x = y := by
  cases x <;> cases y <;> simp only [eqOpt, Bool.false_eq_true] at hx
  · rfl
  · rw [h _ _ hx]
theorem eqTr_eq {α : Type} {eq : α → α → Bool} (h : ∀ x y, eq x y = true → x = y) : ∀ (t s : Tr α), eqTr eq t s = true → t = s
  | .nil, s, hs => by
    cases s with
    | nil => rfl
    | node v l r => cases hs
  | .node v l r, s, hs => by
    cases s with
    | nil => cases hs
    | node u l' r' =>
      have hs' : ifB (eqOpt eq v u) (ifB (eqTr eq l l') (eqTr eq r r') false) false = true := hs
      simp only [ifB_eq, Bool.if_false_right, Bool.and_eq_true, decide_eq_true_eq] at hs'
      rw [eqOpt_eq h hs'.1, eqTr_eq h l l' hs'.2.1, eqTr_eq h r r' hs'.2.2]
theorem eqLs_eq {α : Type} {eq : α → α → Bool} (h : ∀ x y, eq x y = true → x = y) : ∀ (l s : List α), eqLs eq l s = true → l = s
  | [], s, hs => by
    cases s with
    | nil => rfl
    | cons a s => cases hs
  | x :: l, s, hs => by
    cases s with
    | nil => cases hs
    | cons y s =>
      have hs' : ifB (eq x y) (eqLs eq l s) false = true := hs
      simp only [ifB_eq, Bool.if_false_right, Bool.and_eq_true, decide_eq_true_eq] at hs'
      rw [h x y hs'.1, eqLs_eq h l s hs'.2]
theorem natBeq_eq (x y : Nat) (h : Nat.beq x y = true) : x = y := by rwa [Nat.beq_eq] at h
theorem eqA0_eq (x y : AV) (h : eqA0 x y = true) : x = y := by
  cases x <;> cases y <;> simp only [eqA0, Bool.false_eq_true, Bool.and_eq_true, beq_iff_eq, decide_eq_true_eq, Nat.beq_eq] at h
  all_goals first | rfl | skip
  · rw [h]
  · rw [h.1, h.2]
  · rw [h]
  · rw [h.1, h.2]
  · rw [h.1.1, h.1.2, eqTr_eq natBeq_eq _ _ h.2]
  · rw [h.1, h.2]
  · rw [h.1.1.1, h.1.1.2, h.1.2, eqOpt_eq natBeq_eq h.2]
  · rw [h]
theorem eqA1_eq (x y : AV) (h : eqA1 x y = true) : x = y := by
  unfold eqA1 at h
  split at h
  · rw [eqLs_eq eqA0_eq _ _ h]
  · simp only [Bool.and_eq_true, Nat.beq_eq] at h
    rw [h.1, eqLs_eq eqA0_eq _ _ h.2]
  · exact eqA0_eq _ _ h
theorem eqA_eq (x y : AV) (h : eqA x y = true) : x = y := by
  unfold eqA at h
  split at h
  · rw [eqLs_eq eqA1_eq _ _ h]
  · exact eqA1_eq _ _ h
theorem eqO_eq (x y : AO) (h : eqO x y = true) : x = y := by
  cases x <;> cases y <;> simp only [eqO, Bool.false_eq_true, Bool.and_eq_true, Nat.beq_eq] at h
  · rw [h.1.1, h.1.2, eqTr_eq eqA_eq _ _ h.2]
  · rw [h.1.1.1, h.1.1.2, h.1.2, eqTr_eq eqA_eq _ _ h.2]
  · rw [eqLs_eq (fun p q hpq => ?_) _ _ h]
    simp only [Bool.and_eq_true] at hpq
    exact Prod.ext (eqA_eq _ _ hpq.1) (eqA_eq _ _ hpq.2)

/-- what a list of objects says of a label: the last word counts -/
def inAll : List (Nat × AO) → Nat → Option AO
  | [], _ => none
  | x :: l, i => match inAll l i with
    | some o => some o
    | none => if i = x.1 then some x.2 else none
theorem hasL_iff {i : Nat} : ∀ (l : List (Nat × AO)), hasL l i = true ↔ (inAll l i).isSome = true
  | [] => by simp [hasL, listRec, inAll]
  | x :: l => by
    have e : hasL (x :: l) i = ifB (Nat.beq x.1 i) true (hasL l i) := rfl
    rw [e, ifB_eq]
    have ih := hasL_iff (i := i) l
    cases hi : inAll l i with
    | some o => simp only [inAll, hi, Option.isSome_some, iff_true]; rw [hi] at ih; split <;> simp_all
    | none =>
      simp only [inAll, hi]
      rw [hi] at ih
      by_cases hx : i = x.1
      · subst hx; simp
      · have : ¬ Nat.beq x.1 i = true := by rw [Nat.beq_eq]; exact fun e => hx e.symm
        rw [if_neg this, if_neg hx]
        exact ih
theorem lies_ok {h : Hp} : ∀ (l : List (Nat × AO)), lies l h = true → ∀ x ∈ l, h.get x.1 = some x.2
  | [], _, x, hx => by cases hx
  | y :: l, hl, x, hx => by
    have e : (match h.get y.1 with | some o => ifB (eqO y.2 o) (lies l h) false | none => false) = true := hl
    split at e
    · rename_i o ho
      simp only [ifB_eq, Bool.if_false_right, Bool.and_eq_true, decide_eq_true_eq] at e
      cases hx with
      | head => rw [ho, eqO_eq _ _ e.1]
      | tail _ hx => exact lies_ok l e.2 x hx
    · cases e
theorem inAll_mem {i : Nat} {o : AO} : ∀ (l : List (Nat × AO)), inAll l i = some o → (i, o) ∈ l
  | [], h => by cases h
  | x :: l, h => by
    simp only [inAll] at h
    split at h
    · rename_i o' ho
      cases h
      exact List.mem_cons_of_mem _ (inAll_mem l ho)
    · split at h
      · rename_i hx
        cases h
        subst hx
        exact List.mem_cons_self
      · cases h
theorem kept_ok {h : Hp} {post : List (Nat × AO)} : ∀ (l : List (Nat × AO)), kept post l h = true → ∀ x ∈ l, inAll post x.1 = none → h.get x.1 = some x.2
  | [], _, x, hx, _ => by cases hx
  | y :: l, hl, x, hx, hp => by
    have e : ifB (hasL post y.1) (kept post l h) (match h.get y.1 with | some o => ifB (eqO y.2 o) (kept post l h) false | none => false) = true := hl
    rw [ifB_eq] at e
    split at e
    · rename_i hy
      cases hx with
      | head => rw [hasL_iff, hp] at hy; cases hy
      | tail _ hx => exact kept_ok l e x hx hp
    · split at e
      · rename_i o ho
        simp only [ifB_eq, Bool.if_false_right, Bool.and_eq_true, decide_eq_true_eq] at e
        cases hx with
        | head => rw [ho, eqO_eq _ _ e.1]
        | tail _ hx => exact kept_ok l e.2 x hx hp
      · cases e
theorem putAll_ok {β : Type} {k : Hp → R β} {r : β} : ∀ (l : List (Nat × AO)) (h : Hp), putAll l h k = some r → ∃ h', k h' = some r ∧ ∀ i, h'.get i = match inAll l i with | some o => some o | none => h.get i
  | [], h, hr => ⟨h, hr, fun i => rfl⟩
  | x :: l, h, hr => by
    have hr' : Tr.setK (some x.2) h x.1 (fun h => putAll l h k) = some r := hr
    obtain ⟨h1, hr', hh⟩ := Tr.setK_spec _ _ _ _ _ hr'
    obtain ⟨h2, g1, g2⟩ := putAll_ok l h1 hr'
    refine ⟨h2, g1, fun i => ?_⟩
    rw [g2, hh]
    simp only [inAll]
    cases inAll l i with
    | some o => rfl
    | none => by_cases hx : i = x.1 <;> simp [hx]
end Go.Proofs.YtgedmmmgkfehjaaGreatDoor

namespace Go.Proofs.YtgedmmmgkfehjaaGreatDoor

theorem ifB_and {a b : Bool} : ifB a b false = true ↔ a = true ∧ b = true := by cases a <;> cases b <;> simp [ifB]
/-- labels that are not told of are forgotten -/
def Den.cut (ρ : Den) (n : Nat) (post : List (Nat × AO)) : Den := { ρ with at_ := fun l => if l < n ∨ (inAll post l).isSome = true then ρ.at_ l else none }
section
variable {ρ : Den} {n : Nat} {post : List (Nat × AO)}
theorem cut_some {l b : Nat} (h : (ρ.cut n post).at_ l = some b) : ρ.at_ l = some b ∧ (l < n ∨ (inAll post l).isSome = true) := by
  simp only [Den.cut] at h
  split at h
  · rename_i hc; exact ⟨h, hc⟩
  · cases h
theorem cut_kn {l b : Nat} (hk : knL n post l = true) (h : ρ.at_ l = some b) : (ρ.cut n post).at_ l = some b := by
  simp only [Den.cut]
  rw [if_pos]
  · exact h
  · unfold knL at hk
    rw [ifB_eq] at hk
    split at hk
    · rename_i hl
      exact .inl (Nat.le_of_ble_eq_true hl)
    · exact .inr ((hasL_iff post).1 hk)
theorem cl0_vr {x : AV} {u : Value} (hk : cl0 n post x = true) (h : VR ρ x u) : VR (ρ.cut n post) x u := by
  cases h with
  | bad u => exact .bad u
  | undef => exact .undef
  | bool b => exact .bool b
  | int k n => exact .int k n
  | sym c => exact VR.sym (ρ := ρ.cut n post) c
  | float k n => exact .float k n
  | str t o n s hn h => exact .str t o n s hn h
  | ptr l b o h => exact .ptr l b o (cut_kn hk h)
  | pnil => exact .pnil
  | sl l b o n c h hn => exact .sl l b o n c (cut_kn hk h) hn
  | slu l b m h hn => exact VR.slu (ρ := ρ.cut n post) l b m (cut_kn hk h) hn
  | snil => exact .snil
  | map l b h => exact .map l b (cut_kn hk h)
  | mnil => exact .mnil
  | func f xs us h1 h2 => cases hk
  | nilFunc => exact .nilFunc
  | nilIface => exact .nilIface
  | agg xs us h1 h2 => cases hk
  | tup xs us h1 h2 => cases hk
theorem clL_mem : ∀ (l : List AV), clL n post l = true → ∀ x ∈ l, cl0 n post x = true
  | [], _, x, hx => by cases hx
  | y :: l, h, x, hx => by
    have e : ifB (cl0 n post y) (clL n post l) false = true := h
    simp only [ifB_eq, Bool.if_false_right, Bool.and_eq_true, decide_eq_true_eq] at e
    cases hx with
    | head => exact e.1
    | tail _ hx => exact clL_mem l e.2 x hx
theorem clA1_vr {x : AV} {u : Value} (hk : clA1 n post x = true) (h : VR ρ x u) : VR (ρ.cut n post) x u := by
  have many : ∀ (xs : List AV) (us : Array Value), clL n post xs = true → (∀ (i : Nat) (x : AV) (u : Value), xs[i]? = some x → us[i]? = some u → VR ρ x u) → ∀ (i : Nat) (x : AV) (u : Value), xs[i]? = some x → us[i]? = some u → VR (ρ.cut n post) x u :=
    fun xs us hc hv i x u hx hu => cl0_vr (clL_mem xs hc x (List.mem_of_getElem? hx)) (hv i x u hx hu)
  cases h with
  | func f xs us h1 h2 => exact .func f xs us h1 (many xs us hk h2)
  | agg xs us h1 h2 => exact .agg xs us h1 (many xs us hk h2)
  | tup xs us h1 h2 => exact cl0_vr hk (.tup xs us h1 h2)
  | bad u => exact cl0_vr hk (.bad u)
  | undef => exact .undef
  | bool b => exact .bool b
  | int k n => exact .int k n
  | sym c => exact cl0_vr hk (.sym c)
  | float k n => exact .float k n
  | str t o n s hn h => exact .str t o n s hn h
  | ptr l b o h => exact cl0_vr hk (.ptr l b o h)
  | pnil => exact .pnil
  | sl l b o n c h hn => exact cl0_vr hk (.sl l b o n c h hn)
  | slu l b m h hn => exact cl0_vr hk (.slu l b m h hn)
  | snil => exact .snil
  | map l b h => exact cl0_vr hk (.map l b h)
  | mnil => exact .mnil
  | nilFunc => exact .nilFunc
  | nilIface => exact .nilIface
theorem clL1_mem : ∀ (l : List AV), clL1 n post l = true → ∀ x ∈ l, clA1 n post x = true
  | [], _, x, hx => by cases hx
  | y :: l, h, x, hx => by
    have e : ifB (clA1 n post y) (clL1 n post l) false = true := h
    rw [ifB_and] at e
    cases hx with
    | head => exact e.1
    | tail _ hx => exact clL1_mem l e.2 x hx
theorem clA_vr {x : AV} {u : Value} (hk : clA n post x = true) (h : VR ρ x u) : VR (ρ.cut n post) x u := by
  have base : clA1 n post x = true → VR (ρ.cut n post) x u := fun hk => clA1_vr hk h
  cases x with
  | tup xs =>
    cases h with
    | tup _ us h1 h2 => exact .tup xs us h1 fun i x u hx hu => clA1_vr (clL1_mem xs hk x (List.mem_of_getElem? hx)) (h2 i x u hx hu)
  | _ => exact base hk
theorem clT_get : ∀ (t : Tr AV), clT n post t = true → ∀ (i : Nat) (v : AV), t.get i = some v → clA n post v = true
  | .nil, _, i, v, h => by cases h
  | .node u l r, hc, i, v, h => by
    have hlr : clT n post l = true ∧ clT n post r = true ∧ ∀ v, u = some v → clA n post v = true := by
      cases u with
      | none =>
        have e : ifB (clT n post l) (clT n post r) false = true := hc
        rw [ifB_and] at e
        exact ⟨e.1, e.2, fun v hv => by cases hv⟩
      | some v =>
        have e : ifB (clA n post v) (ifB (clT n post l) (clT n post r) false) false = true := hc
        rw [ifB_and, ifB_and] at e
        exact ⟨e.2.1, e.2.2, fun v' hv => by cases hv; exact e.1⟩
    rw [Tr.get_node] at h
    split at h
    · exact hlr.2.2 v h
    · split at h
      · exact clT_get l hlr.1 _ v h
      · exact clT_get r hlr.2.1 _ v h
theorem clO_or {l : Nat} {o : AO} {x : Obj} (hk : clO n post o = true) (h : OR ρ l o x) : OR (ρ.cut n post) l o x := by
  cases o with
  | cells c m e =>
    obtain ⟨cs, h1, h2, h3⟩ := h
    exact ⟨cs, h1, h2, fun i v hi hv => let ⟨u, hu, hvr⟩ := h3 i v hi hv; ⟨u, hu, clA_vr (clT_get c hk i v hv) hvr⟩⟩
  | row c m z e =>
    obtain ⟨cs, h1, h2, h4, h5, h3⟩ := h
    exact ⟨cs, h1, h2, h4, h5, fun i v hi hv => let ⟨u, hu, hvr⟩ := h3 i v hi hv; ⟨u, hu, clA_vr (clT_get c hk i v hv) hvr⟩⟩
  | map es =>
    obtain ⟨ms, clock, h1, h2, h3⟩ := h
    have all : ∀ (es : List (AV × AV)), listRec (γ := Bool) true (fun x ih => ifB (clA n post x.1) (ifB (clA n post x.2) ih false) false) es = true → ∀ p ∈ es, clA n post p.1 = true ∧ clA n post p.2 = true := by
      intro es
      induction es with
      | nil => intro _ p hp; cases hp
      | cons q es ih =>
        intro he p hp
        rw [listRec_cons, ifB_and, ifB_and] at he
        cases hp with
        | head => exact ⟨he.1, he.2.1⟩
        | tail _ hp => exact ih he.2.2 p hp
    exact ⟨ms, clock, h1, h2, fun i p e hp he => ⟨clA_vr (all es hk p (List.mem_of_getElem? hp)).1 (h3 i p e hp he).1, clA_vr (all es hk p (List.mem_of_getElem? hp)).2 (h3 i p e hp he).2⟩⟩
theorem clP_mem : ∀ (l : List (Nat × AO)), clP n post l = true → ∀ x ∈ l, clO n post x.2 = true
  | [], _, x, hx => by cases hx
  | y :: l, h, x, hx => by
    have e : ifB (clO n post y.2) (clP n post l) false = true := h
    simp only [ifB_eq, Bool.if_false_right, Bool.and_eq_true, decide_eq_true_eq] at e
    cases hx with
    | head => exact e.1
    | tail _ hx => exact clP_mem l e.2 x hx
end

/-- what was told of before is not forgotten -/
theorem vr_old {ρ ρ' : Den} {n : Nat} {post : List (Nat × AO)} (hd : ∀ l b, ρ.at_ l = some b → l < n) {x : AV} {u' : Value} (h' : VR ρ' x u') : ∀ u, VR ρ x u → VR (ρ'.cut n post) x u' := by
  have one : ∀ l b b0, ρ'.at_ l = some b → ρ.at_ l = some b0 → (ρ'.cut n post).at_ l = some b := by
    intro l b b0 h1 h2
    simp only [Den.cut]
    rw [if_pos (.inl (hd l b0 h2))]
    exact h1
  have many : ∀ (xs : List AV) (us us0 : Array Value), xs.length = us0.size → (∀ (i : Nat) (x : AV) (u : Value), xs[i]? = some x → us0[i]? = some u → VR ρ x u) → (∀ (i : Nat) (x : AV) (u : Value), xs[i]? = some x → us[i]? = some u → ∀ u0, VR ρ x u0 → VR (ρ'.cut n post) x u) →
      ∀ (i : Nat) (x : AV) (u : Value), xs[i]? = some x → us[i]? = some u → VR (ρ'.cut n post) x u := by
    intro xs us us0 h1 h2 ih i x u hx hu
    have hi : i < us0.size := by
      have := (List.getElem?_eq_some_iff.1 hx).1
      omega
    exact ih i x u hx hu us0[i] (h2 i x _ hx (Array.getElem?_eq_getElem hi))
  induction h' with
  | bad u => intro u0 hu; exact .bad u
  | undef => intro u0 hu; exact .undef
  | bool b => intro u0 hu; exact .bool b
  | int k n => intro u0 hu; exact .int k n
  | sym c => intro u0 hu; exact VR.sym (ρ := ρ'.cut n post) c
  | float k n => intro u0 hu; exact .float k n
  | str t o n s hn h => intro u0 hu; exact .str t o n s hn h
  | ptr l b o h => intro u0 hu; cases hu; rename_i b0 hb0; exact .ptr l b o (one l b b0 h hb0)
  | pnil => intro u0 hu; exact .pnil
  | sl l b o n c h hn => intro u0 hu; cases hu; rename_i b0 hb0 hn0; exact .sl l b o n c (one l b b0 h hb0) hn
  | slu l b m h hn => intro u0 hu; cases hu; rename_i b0 hb0 hn0; exact VR.slu (ρ := ρ'.cut n post) l b m (one l b b0 h hb0) hn
  | snil => intro u0 hu; exact .snil
  | map l b h => intro u0 hu; cases hu; rename_i b0 hb0; exact .map l b (one l b b0 h hb0)
  | mnil => intro u0 hu; exact .mnil
  | func f xs us h1 _ ih => intro u0 hu; cases hu; rename_i us0 g1 g2; exact .func f xs us h1 (many xs us us0 g1 g2 ih)
  | nilFunc => intro u0 hu; exact .nilFunc
  | nilIface => intro u0 hu; exact .nilIface
  | agg xs us h1 _ ih => intro u0 hu; cases hu; rename_i us0 g1 g2; exact .agg xs us h1 (many xs us us0 g1 g2 ih)
  | tup xs us h1 _ ih => intro u0 hu; cases hu; rename_i us0 g1 g2; exact .tup xs us h1 (many xs us us0 g1 g2 ih)
theorem or_old {ρ ρ' : Den} {n : Nat} {post : List (Nat × AO)} (hd : ∀ l b, ρ.at_ l = some b → l < n) {l : Nat} {o : AO} {x x' : Obj} (h : OR ρ l o x) (h' : OR ρ' l o x') : OR (ρ'.cut n post) l o x' := by
  cases o with
  | cells c m e =>
    obtain ⟨cs, h1, h2, h3⟩ := h'
    obtain ⟨cs0, g1, g2, g3⟩ := h
    exact ⟨cs, h1, h2, fun i v hi hv => let ⟨u, hu, hvr⟩ := h3 i v hi hv; let ⟨u0, _, hv0⟩ := g3 i v hi hv; ⟨u, hu, vr_old hd hvr u0 hv0⟩⟩
  | row c m z e =>
    obtain ⟨cs, h1, h2, h4, h5, h3⟩ := h'
    obtain ⟨cs0, g1, g2, g4, g5, g3⟩ := h
    exact ⟨cs, h1, h2, h4, h5, fun i v hi hv => let ⟨u, hu, hvr⟩ := h3 i v hi hv; let ⟨u0, _, hv0⟩ := g3 i v hi hv; ⟨u, hu, vr_old hd hvr u0 hv0⟩⟩
  | map es =>
    obtain ⟨ms, clock, h1, h2, h3⟩ := h'
    obtain ⟨ms0, clock0, g1, g2, g3⟩ := h
    refine ⟨ms, clock, h1, h2, fun i p e hp he => ?_⟩
    have hi : i < ms0.size := by
      have := (List.getElem?_eq_some_iff.1 hp).1
      omega
    have := g3 i p ms0[i] hp (Array.getElem?_eq_getElem hi)
    exact ⟨vr_old hd (h3 i p e hp he).1 _ this.1, vr_old hd (h3 i p e hp he).2 _ this.2⟩

/-- a part of the heap is enough -/
theorem Rel.part {ρ : Den} {h hp : Hf} {n : Nat} {w : World} (hr : Rel ρ h n w) (hs : ∀ l o, hp l = some o → h l = some o) : Rel ρ hp n w :=
  ⟨hr.floor, hr.dom, fun l o b ho hb => hr.obj l o b (hs l o ho) hb, fun l l' b o o' h1 h2 h3 h4 => hr.inj l l' b o o' h1 h2 (hs l o h3) (hs l' o' h4)⟩

/-- what the part says, the whole says -/
theorem Post.whole {ρ ρ' : Den} {h hp h' h2 : Hf} {n n' : Nat} {w w' : World} {post : List (Nat × AO)} (hr : Rel ρ h n w) (p : Post ρ hp n w ρ' h' n' w') (hs : ∀ l o, hp l = some o → h l = some o)
    (h2e : ∀ l, h2 l = match inAll post l with | some o => some o | none => h l) (hpo : ∀ l o, inAll post l = some o → h' l = some o) (hk : ∀ l o, hp l = some o → inAll post l = none → h' l = some o) (hc : clP n post post = true) :
    Post ρ h n w (ρ'.cut n post) h2 n' w' := by
  have hle : ρ.Le (ρ'.cut n post) := by
    refine ⟨fun l b hb => ?_, p.le.sig, p.le.base⟩
    obtain ⟨h1, h3⟩ := p.le.at_ l b hb
    refine ⟨?_, h3⟩
    simp only [Den.cut]
    rw [if_pos (.inl (hr.dom l b hb).2.2)]
    exact h1
  have older : ∀ l b, ρ'.at_ l = some b → l < n → ρ.at_ l = some b := by
    intro l b hb hl
    cases hq : ρ.at_ l with
    | none => rw [(p.pend l hl hq).1] at hb; cases hb
    | some b' => have := (p.le.at_ l b' hq).1; rw [hb] at this; exact this.symm
  have sz := p.size
  refine ⟨hle, ⟨by have := hr.floor; show ρ'.base ≤ _; rw [p.le.base]; omega, fun l b hb => p.rel.dom l b (cut_some hb).1, ?_, ?_⟩, p.mono, ?_, ?_, ?_, ?_, p.size, p.os, p.tape, p.output⟩
  · intro l o b ho hb
    obtain ⟨hb', hl⟩ := cut_some hb
    rw [h2e] at ho
    cases hi : inAll post l with
    | some o' =>
      rw [hi] at ho
      cases ho
      obtain ⟨x, hx, hor⟩ := p.rel.obj l o b (hpo l o hi) hb'
      exact ⟨x, hx, clO_or (clP_mem post hc _ (inAll_mem post hi)) hor⟩
    | none =>
      rw [hi] at ho hl
      have hln : l < n := by simpa using hl
      have hb0 := older l b hb' hln
      obtain ⟨x, hx, hor⟩ := hr.obj l o b ho hb0
      cases hq : hp l with
      | some o' =>
        have e := hs l o' hq
        have ho' : h l = some o := ho
        rw [ho'] at e
        cases e
        obtain ⟨x', hx', hor'⟩ := p.rel.obj l o b (hk l o hq hi) hb'
        exact ⟨x', hx', or_old (fun l b hb => (hr.dom l b hb).2.2) hor hor'⟩
      | none =>
        refine ⟨x, ?_, hor.mono hle hb0⟩
        rw [p.frame b (hr.dom l b hb0).2.1 fun l0 o0 g1 g2 => ?_]
        · exact hx
        · have := hr.inj l l0 b o o0 hb0 g2 ho (hs l0 o0 g1)
          subst this
          rw [hq] at g1
          cases g1
  · intro l l' b o o' hb hb' ho ho'
    obtain ⟨g1, g2⟩ := cut_some hb
    obtain ⟨g1', g2'⟩ := cut_some hb'
    have side : ∀ l o, h2 l = some o → ρ'.at_ l = some b → (l < n ∨ (inAll post l).isSome = true) → (∃ q, h' l = some q) ∨ (l < n ∧ h l = some o ∧ hp l = none ∧ ρ.at_ l = some b) := by
      intro l o ho hb hl
      rw [h2e] at ho
      cases hi : inAll post l with
      | some q => exact .inl ⟨q, hpo l q hi⟩
      | none =>
        rw [hi] at ho hl
        have hln : l < n := by simpa using hl
        cases hq : hp l with
        | some q => exact .inl ⟨q, hk l q hq hi⟩
        | none => exact .inr ⟨hln, ho, rfl, older l b hb hln⟩
    -- a block that lies outside the part is no other's
    have out : ∀ l l' o q, h l = some o → hp l = none → ρ.at_ l = some b → ρ'.at_ l' = some b → h' l' = some q → l = l' := by
      intro l l' o q e1 e2 e3 e4 e5
      have e6 := (hr.dom l b e3).2.1
      rcases p.fresh l' b e4 with f | f | ⟨l0, o0, f1, f2⟩
      · have hl' := (hr.dom l' b f).2.2
        cases hq : hp l' with
        | none => rw [p.old l' hl' hq] at e5; cases e5
        | some q' => exact hr.inj l l' b o q' e3 f e1 (hs l' q' hq)
      · omega
      · have := hr.inj l l0 b o o0 e3 f2 e1 (hs l0 o0 f1)
        subst this
        rw [e2] at f1
        cases f1
    rcases side l o ho g1 g2 with ⟨q, f⟩ | ⟨f1, f2, f3, f4⟩
    · rcases side l' o' ho' g1' g2' with ⟨q', f'⟩ | ⟨f1', f2', f3', f4'⟩
      · exact p.rel.inj l l' b q q' g1 g1' f f'
      · exact (out l' l o' q f2' f3' f4' g1 f).symm
    · rcases side l' o' ho' g1' g2' with ⟨q', f'⟩ | ⟨f1', f2', f3', f4'⟩
      · exact out l l' o q' f2 f3 f4 g1' f'
      · exact hr.inj l l' b o o' f4 f4' f2 f2'
  · intro l hl hn
    obtain ⟨g1, g2⟩ := p.pend l hl hn
    refine ⟨by simp only [Den.cut]; rw [g1]; simp, ?_⟩
    rw [h2e]
    cases hi : inAll post l with
    | none => rfl
    | some o =>
      rw [hpo l o hi] at g2
      exact (hs l o g2.symm).symm
  · intro l hl hn
    rw [h2e]
    cases hi : inAll post l with
    | none => exact hn
    | some o =>
      exfalso
      cases hq : hp l with
      | none => have := p.old l hl hq; rw [hpo l o hi] at this; cases this
      | some q => rw [hs l q hq] at hn; cases hn
  · intro l b hb
    rcases p.fresh l b (cut_some hb).1 with f | f | ⟨l0, o, f1, f2⟩
    · exact .inl f
    · exact .inr (.inl f)
    · exact .inr (.inr ⟨l0, o, hs l0 o f1, f2⟩)
  · intro b hb hno
    exact p.frame b hb fun l o g1 g2 => hno l o (hs l o g1) g2
end Go.Proofs.YtgedmmmgkfehjaaGreatDoor
