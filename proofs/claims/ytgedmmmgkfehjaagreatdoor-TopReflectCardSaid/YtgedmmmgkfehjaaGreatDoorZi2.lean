/- A region whose order is drawn: what each step of the reckoner's own order says. A region whose order is drawn: whatever order comes, it ends as the reckoner's own does. -/
import Derived.Test.YtgedmmmgkfehjaaGreatDoorZg
import Derived.Orders
namespace Go.Proofs.YtgedmmmgkfehjaaGreatDoor

/-- a slot written -/
def PutS (m : Nat) (t : Tm) (d : Option Tmp) (v : AV) (t' : Tm) : Prop :=
  match d with
  | none => t' = t
  | some d => d < m ∧ ∀ i, t'.get i = if i = d then some v else t.get i
theorem put_S {β : Type} {m : Nat} {t : Tm} {d : Option Tmp} {v : AV} {k : Tm → R β} {r : β} (hr : put m t d v k = some r) : ∃ t', k t' = some r ∧ PutS m t d v t' := by
  cases d with
  | none => exact ⟨t, hr, rfl⟩
  | some d =>
    have hr' : gd (Nat.ble (Nat.succ d) m) (Tr.setK (some v) t d k) = some r := hr
    rw [gd_some] at hr'
    obtain ⟨hd, hr'⟩ := hr'
    obtain ⟨t', hr', ht⟩ := Tr.setK_spec _ _ _ _ _ hr'
    exact ⟨t', hr', Nat.le_of_ble_eq_true hd, ht⟩
theorem PutS.other {m : Nat} {t t' : Tm} {d : Option Tmp} {v : AV} (h : PutS m t d v t') {i : Nat} (hi : d ≠ some i) : t'.get i = t.get i := by
  cases d with
  | none => have : t' = t := h; rw [this]
  | some d =>
    have hid : i ≠ d := fun e => hi (by rw [e])
    rw [h.2, if_neg hid]
theorem PutS.self {m : Nat} {t t' : Tm} {d : Nat} {v : AV} (h : PutS m t (some d) v t') : t'.get d = some v ∧ d < m := ⟨by rw [h.2, if_pos rfl], h.1⟩

/-- is the operation carried out, by what is known of the slots? -/
def WantedIs (ops : Array Oper) (o : Oper) (t : Tm) (b : Bool) : Prop :=
  ∀ (ρ : Den) (a : Array Value), (∀ d v, (o.guard.bind fun p => (ops[p.1]?).bind (·.dst)) = some d → t.get d = some v → VR ρ v (a.getD d undef)) → Region.wanted o (yielded ops a) = b

/-- an operation that writes -/
def OpStep (E : Env) (o : Oper) (t : Tm) (h : Hf) (n : Nat) (ds : Ds) (v : AV) (h' : Hf) (n' : Nat) (ds' : Ds) : Prop :=
  ∀ (ρ : Den) (a : Act) (w : World), SigOK E ρ → Rel ρ h n w → (∀ x, x ∈ o.op.operands → VR ρ (ev t x) (a.eval x)) → DR ρ ds a.defers → ∀ (K : Act → World → Prop) (Q : Exit → Act → World → Prop),
    (∀ u w' ρ' es, Post ρ h n w ρ' h' n' w' → VR ρ' v u → DR ρ' ds' es → K (({ a with defers := es } : Act).put o.dst u) w') → o.wp E.P a w K Q

section
variable {β : Type} {E : Env} {call : CallF β} {m : Nat} {ops : Array Oper} {t : Tm} {h : Hp} {n : Nat} {ds : Ds}

theorem args_rel {ρ : Den} {a : Act} (l : Array Operand) (hx : ∀ x, x ∈ l → VR ρ (ev t x) (a.eval x)) : VRs ρ (l.toList.map (ev t)) (l.map a.eval) := by
  refine ⟨by simp, fun i x u hx' hu => ?_⟩
  rw [List.getElem?_map, Array.getElem?_toList] at hx'
  rw [Array.getElem?_map] at hu
  cases hl : l[i]? with
  | none => simp [hl] at hx'
  | some y =>
    simp [hl] at hx' hu
    subst hx'
    subst hu
    exact hx y (Array.mem_of_getElem? hl)

theorem operV_ok {o : Oper} {k : Tm → Hp → Nat → Ds → R β} {r : β} (hcall : CallSound E call) (hw : isW o.op = true) (hr : operF E call m o.dst o.op t h n ds k = some r) :
    ∃ t' h' n' ds' v, k t' h' n' ds' = some r ∧ PutS m t o.dst v t' ∧ OpStep E o t h.get n ds v h'.get n' ds' := by
  unfold operF at hr
  unfold isW at hw
  generalize hcl : cls o.op = q at hr hw
  cases q with
  | pure => cases hw
  | new => cases hw
  | write =>
    have hr' : (writeF E o.op t h n fun v h n => put m t o.dst v fun t => k t h n ds) = some r := hr
    obtain ⟨v, h', n', hr', hok⟩ := writeF_ok hr'
    obtain ⟨t', hr', hput⟩ := put_S hr'
    refine ⟨t', h', n', ds, v, hr', hput, fun ρ a w hsig hrel hx hd K Q hK => ?_⟩
    obtain ⟨u, w', ρ', g1, g2, g3⟩ := hok ρ w a o rfl hsig hrel hx
    unfold Oper.wp
    rcases g1 with g1 | ⟨g1, rfl⟩
    · rw [g1]
      exact hK u w' ρ' a.defers g2 g3 (hd.mono g2.le)
    · rw [g1]
      exact hK undef w' ρ' a.defers g2 g3 (hd.mono g2.le)
  | call =>
    have hr' : cS call m o.dst o.op t h n ds k = some r := hr
    unfold cS at hr'
    split at hr'
    · rename_i c hc
      unfold callOp at hr'
      obtain ⟨callee, args, tys⟩ := c
      cases callee <;> simp only [reduceCtorEq, evK_eq, evsK_eq, asFunc_some] at hr'
      rename_i f
      obtain ⟨fn, xs, hfx, hr'⟩ := hr'
      obtain ⟨v, h', n', hr', hok⟩ := hcall _ _ _ _ _ _ hr'
      obtain ⟨t', hr', hput⟩ := put_S hr'
      refine ⟨t', h', n', ds, v, hr', hput, fun ρ a w hsig hrel hx hd K Q hK => ?_⟩
      have hxf := hx f (by rw [hc]; simp [Op.operands, Call.operands])
      have hxa : ∀ x, x ∈ args → VR ρ (ev t x) (a.eval x) := fun x hm => hx x (by rw [hc]; simp [Op.operands, Call.operands, hm])
      rw [hfx] at hxf
      generalize hu : a.eval f = u at hxf
      cases hxf
      rename_i us g1 g2
      have hvs : VRs ρ (args.toList.map (ev t) ++ xs) (args.map a.eval ++ us) := (args_rel args hxa).append ⟨g1, g2⟩
      have hexec : (execOp a.eval o).run E.P w = (callFunc fn (args.map a.eval ++ us)).run E.P w := by
        simp only [execOp, hc, Sem.run_bind, resolve_run (c := { callee := .value f, args, argTypes := tys }) rfl hu, Result.andThen_ok, invoke]
      unfold Oper.wp
      rw [hexec]
      rcases hok ρ w _ hsig hrel hvs with ⟨g3, g4⟩ | ⟨u, g3, g4, g5⟩
      · rw [g3]
        show Calls _ _ _ _ _
        refine g4.mono fun e w' he => ?_
        cases e with
        | returned u => obtain ⟨ρ', p1, p2⟩ := he; exact hK u w' ρ' a.defers p1 p2 (hd.mono p1.le)
        | panicked ch => exact he.elim
        | outgrown => exact he.elim
      · rw [g3]
        exact hK u w ρ a.defers g4 g5 hd
    · cases hr'
  | defer =>
    have hr' : dS m o.dst o.op t h n ds k = some r := hr
    unfold dS at hr'
    split at hr'
    · rename_i c hc
      unfold deferOp at hr'
      obtain ⟨callee, args, tys⟩ := c
      cases callee <;> simp only [reduceCtorEq, evK_eq, evsK_eq, asFunc_some] at hr'
      rename_i f
      obtain ⟨fn, xs, hfx, hr'⟩ := hr'
      obtain ⟨t', hr', hput⟩ := put_S hr'
      refine ⟨t', h, n, _, .undef, hr', hput, fun ρ a w hsig hrel hx hd K Q hK => ?_⟩
      have hxf := hx f (by rw [hc]; simp [Op.operands, Call.operands])
      have hxa : ∀ x, x ∈ args → VR ρ (ev t x) (a.eval x) := fun x hm => hx x (by rw [hc]; simp [Op.operands, Call.operands, hm])
      rw [hfx] at hxf
      generalize hu : a.eval f = u at hxf
      cases hxf
      rename_i us g1 g2
      have hvs : VRs ρ (args.toList.map (ev t) ++ xs) (args.map a.eval ++ us) := (args_rel args hxa).append ⟨g1, g2⟩
      have hexec : (execOp a.eval o).run E.P w = .ok (.defer { target := .fn (.func fn) us, args := args.map a.eval }) w := by
        simp only [execOp, hc, Sem.run_bind, resolve_run (c := { callee := .value f, args, argTypes := tys }) rfl hu, Result.andThen_ok, Sem.run_pure]
      unfold Oper.wp
      rw [hexec]
      exact hK undef w ρ _ (Post.refl hrel) .undef (.cons fn _ _ us ds _ hvs hd)
    · cases hr'

/-! ### what is told is the same -/
theorem sameA_vr {ρ : Den} {x y : AV} {u : Value} (h : sameA x y = true) (hx : VR ρ x u) : VR ρ y u := by
  unfold sameA at h
  split at h
  · have := eq_of_beq h; subst this; exact hx
  · rw [Bool.and_eq_true, decide_eq_true_eq, decide_eq_true_eq] at h; obtain ⟨rfl, rfl⟩ := h; exact hx
  · rw [decide_eq_true_eq] at h; subst h; exact hx
  · rw [Bool.and_eq_true, decide_eq_true_eq, Nat.beq_eq] at h; obtain ⟨rfl, rfl⟩ := h; exact hx
  · rw [Bool.and_eq_true, Nat.beq_eq, Nat.beq_eq] at h; obtain ⟨rfl, rfl⟩ := h; exact hx
  · exact hx
  · exact hx
  · simp only [Bool.and_eq_true, Nat.beq_eq] at h; obtain ⟨⟨⟨rfl, rfl⟩, rfl⟩, rfl⟩ := h; exact hx
  · simp only [Bool.and_eq_true, Nat.beq_eq] at h; obtain ⟨⟨rfl, rfl⟩, rfl⟩ := h; exact hx
  · exact hx
  · rw [Nat.beq_eq] at h; subst h; exact hx
  · exact hx
  · rename_i t o n t' o' n'
    rw [Bool.and_eq_true, Nat.beq_eq] at h
    obtain ⟨rfl, h⟩ := h
    have hx' := hx
    cases hx
    rename_i s hget hn
    split at h
    · rename_i l l' hl hl'
      rw [eqNats_iff] at h
      subst h
      obtain ⟨h1, h2⟩ := bytesOf_spec _ _ _ _ hl'
      have hb := str_bytes hl hx'
      refine .str _ _ _ s hn fun i z hz => ?_
      have hi : i < n := by
        have := (List.getElem?_eq_some_iff.1 hz).1
        omega
      rw [h2 i hi, hb, List.getElem?_map, hz]
      rfl
    · cases h
  · cases h
theorem sameL_vrs {ρ : Den} : ∀ (x y : List AV) (us : Array Value), sameL x y = true → VRs ρ x us → VRs ρ y us
  | [], y, us, h, hx => by
    have : y = [] := by
      have h' : y.isEmpty = true := h
      simpa using h'
    subst this
    exact hx
  | x :: xs, [], us, h, hx => by cases h
  | x :: xs, y :: ys, us, h, hx => by
    have h' : ifB (sameA x y) (sameL xs ys) false = true := h
    rw [ifB_eq] at h'
    split at h'
    · rename_i hs
      obtain ⟨us⟩ := us
      cases us with
      | nil => have := hx.1; simp at this
      | cons u us =>
        have ih := sameL_vrs xs ys us.toArray h' ⟨by have := hx.1; simpa using this, fun i a b ha hb => hx.2 (i + 1) a b (by simpa using ha) (by simpa using hb)⟩
        refine ⟨by have := ih.1; simpa using this, fun i a b ha hb => ?_⟩
        cases i with
        | zero =>
          simp at ha hb
          subst ha
          subst hb
          exact sameA_vr hs (hx.2 0 x u rfl rfl)
        | succ i => exact ih.2 i a b (by simpa using ha) (by simpa using hb)
    · cases h'
theorem sameV_vr {ρ : Den} {x y : AV} {u : Value} (h : sameV x y = true) (hx : VR ρ x u) : VR ρ y u := by
  unfold sameV at h
  split at h
  · cases hx
    rename_i us h1 h2
    obtain ⟨g1, g2⟩ := sameL_vrs _ _ us h ⟨h1, h2⟩
    exact .agg _ us g1 g2
  · exact sameA_vr h hx

/-! ### the steps of the reckoner's order -/
/-- an operation that does not write -/
inductive EvS (E : Env) (m : Nat) (ops : Array Oper) (o : Oper) : Tm → Hf → Nat → Tm → Hf → Nat → Prop where
  | skip (t : Tm) (h : Hf) (n : Nat) (t' : Tm) (hw : WantedIs ops o t false) (hp : PutS m t o.dst .undef t') : EvS E m ops o t h n t' h n
  | pure (t : Tm) (h : Hf) (n : Nat) (t' : Tm) (hi : Hp) (v : AV) (hw : WantedIs ops o t true) (hi1 : Sub hi.get h) (hi2 : readsB E o.op = false → hi = .nil) (hok : PureOK E o.op t hi v) (hp : PutS m t o.dst v t') : EvS E m ops o t h n t' h n
  | new (t : Tm) (h : Hf) (n : Nat) (t' : Tm) (h' : Hf) (ob : AO) (mk : Nat → AV) (hw : WantedIs ops o t true) (hrd : readsB E o.op = false) (hok : NewOK E o.op t ob mk) (hn : h n = none) (hh : ∀ x, h' x = if x = n then some ob else h x) (hp : PutS m t o.dst (mk n) t') : EvS E m ops o t h n t' h' (n + 1)

theorem evF_ok {o : Oper} {k : Tm → Hp → Nat → R β} {r : β} (hr : evF E m ops o t h n k = some r) : ∃ t' h' n', k t' h' n' = some r ∧ EvS E m ops o t h.get n t' h'.get n' := by
  unfold evF at hr
  obtain ⟨b, hr, hw⟩ := wantedK_ok hr
  cases b with
  | false =>
    obtain ⟨t', hr, hp⟩ := put_S (show put m t o.dst .undef (fun t => k t h n) = some r from hr)
    exact ⟨t', h, n, hr, .skip t _ n t' hw hp⟩
  | true =>
    simp only [ifB_true] at hr
    split at hr
    · rename_i hc
      obtain ⟨v, hr, hok⟩ := pureF_ok hr
      obtain ⟨t', hr, hp⟩ := put_S hr
      refine ⟨t', h, n, hr, .pure t _ n t' _ v hw ?_ ?_ hok hp⟩
      · rw [ifB_eq]
        split
        · exact Sub.refl _
        · intro l o hl
          cases hl
      · intro he
        rw [ifB_eq, he]
        rfl
    · rename_i hc
      rw [gd_some] at hr
      obtain ⟨hn, hr⟩ := hr
      obtain ⟨ob, mk, hr, hok⟩ := newF_ok hr
      obtain ⟨h', hr, hh⟩ := Tr.setK_spec _ _ _ _ _ hr
      simp only [forceN_eq] at hr
      obtain ⟨t', hr, hp⟩ := put_S hr
      have hrd : readsB E o.op = false := by
        cases ho : o.op <;> rw [ho] at hc <;> first | rfl | cases hc | skip
        rename_i c
        obtain ⟨callee, args, tys⟩ := c
        cases callee with
        | value f => cases hc
        | invoke r m => cases hc
        | builtin b => cases b <;> cases hc
      exact ⟨t', h', n + 1, hr, .new t _ n t' _ ob mk hw hrd hok (by simpa using hn) hh hp⟩
    · cases hr

/-- looked at again -/
def ReS (E : Env) (ops : Array Oper) (o : Oper) (t : Tm) (h : Hp) : Prop :=
  (WantedIs ops o t false ∧ ∀ d, o.dst = some d → ∃ u, t.get d = some u ∧ ∀ (ρ : Den) (y : Value), VR ρ .undef y → VR ρ u y) ∨
  ∃ v, WantedIs ops o t true ∧ PureOK E o.op t h v ∧ ∀ d, o.dst = some d → ∃ u, t.get d = some u ∧ ∀ (ρ : Den) (y : Value), VR ρ v y → VR ρ u y
theorem reF_ok {k : R β} {r : β} : ∀ (re : List (Oper × Nat)), reF E ops re t h k = some r → k = some r ∧ ∀ x ∈ re, ReS E ops x.1 t h
  | [], hr => ⟨hr, fun x hx => by cases hx⟩
  | x :: re, hr => by
    have hr' : (wantedK ops x.1.guard t fun b => ifB b
      (pureF E x.1.op t h fun v => Option.casesOn x.1.dst (reF E ops re t h k) fun d => ob (t.get d) fun u => gd (sameV v u) (reF E ops re t h k))
      (Option.casesOn x.1.dst (reF E ops re t h k) fun d => ob (t.get d) fun u => gd (sameV .undef u) (reF E ops re t h k))) = some r := hr
    obtain ⟨b, hr', hw⟩ := wantedK_ok (o := x.1) hr'
    have fin : ∀ v, (Option.casesOn x.1.dst (reF E ops re t h k) fun d => ob (t.get d) fun u => gd (sameV v u) (reF E ops re t h k) : R β) = some r → reF E ops re t h k = some r ∧ ∀ d, x.1.dst = some d → ∃ u, t.get d = some u ∧ ∀ (ρ : Den) (y : Value), VR ρ v y → VR ρ u y := by
      intro v hv
      cases hd : x.1.dst with
      | none =>
        rw [hd] at hv
        exact ⟨hv, fun d hd' => by cases hd'⟩
      | some d =>
        rw [hd] at hv
        have hv' : (ob (t.get d) fun u => gd (sameV v u) (reF E ops re t h k)) = some r := hv
        simp only [ob_some, gd_some] at hv'
        obtain ⟨u, hu, hs, hv'⟩ := hv'
        exact ⟨hv', fun d' hd' => by cases hd'; exact ⟨u, hu, fun ρ y hy => sameV_vr hs hy⟩⟩
    cases b with
    | true =>
      obtain ⟨v, hr', hok⟩ := pureF_ok (show pureF E x.1.op t h _ = some r from hr')
      obtain ⟨hr2, hd⟩ := fin v hr'
      obtain ⟨h1, h2⟩ := reF_ok re hr2
      refine ⟨h1, fun y hy => ?_⟩
      cases hy with
      | head => exact .inr ⟨v, hw, hok, hd⟩
      | tail _ hy => exact h2 y hy
    | false =>
      obtain ⟨hr2, hd⟩ := fin .undef hr'
      obtain ⟨h1, h2⟩ := reF_ok re hr2
      refine ⟨h1, fun y hy => ?_⟩
      cases hy with
      | head => exact .inl ⟨hw, hd⟩
      | tail _ hy => exact h2 y hy
end
end Go.Proofs.YtgedmmmgkfehjaaGreatDoor

namespace Go.Proofs.YtgedmmmgkfehjaaGreatDoor

/-- what is known of a region's text -/
structure Stat (ops : Array Oper) (A : List Nat) : Prop where
  low : ∀ (i : Nat) (o : Oper), ops[i]? = some o → ∀ e ∈ o.after, Region.binds .any e = true → e.on < i
  once : ∀ (i j : Nat) (o p : Oper) (d : Tmp), ops[i]? = some o → ops[j]? = some p → o.dst = some d → p.dst = some d → i = j
  anc : ∀ (i x : Nat), bitA A i x = true → ∃ o, ops[i]? = some o ∧ ∃ e ∈ o.after, Region.binds .any e = true ∧ (e.on = x ∨ bitA A e.on x = true)
  looks : ∀ (i : Nat) (o : Oper), ops[i]? = some o → ∀ d ∈ o.looksAt ops, ∀ (j : Nat) (p : Oper), ops[j]? = some p → p.dst = some d → j ≠ i → bitA A i j = true ∨ bitA A j i = true

section
variable {E : Env} {m : Nat} {ops : Array Oper} {A : List Nat} {t0 : Tm}

/-- with an operation all that lies before it -/
def Down (ops : Array Oper) (L : Nat → Prop) : Prop := ∀ (i : Nat) (o : Oper), ops[i]? = some o → L i → ∀ e ∈ o.after, Region.binds .any e = true → L e.on
theorem anc_down (hs : Stat ops A) {L : Nat → Prop} (hL : Down ops L) : ∀ (i x : Nat), L i → bitA A i x = true → L x := by
  intro i
  induction i using Nat.strongRecOn with
  | _ i ih =>
    intro x hi hx
    obtain ⟨o, ho, e, he, hb, h⟩ := hs.anc i x hx
    have h1 := hL i o ho hi e he hb
    rcases h with rfl | h
    · exact h1
    · exact ih e.on (hs.low i o ho e he hb) x h1 h
theorem anc_ready (hs : Stat ops A) {L : Nat → Prop} (hL : Down ops L) {i x : Nat} {o : Oper} (ho : ops[i]? = some o) (hr : ∀ e ∈ o.after, Region.binds .any e = true → L e.on) (hx : bitA A i x = true) : L x := by
  obtain ⟨o', ho', e, he, hb, h⟩ := hs.anc i x hx
  rw [ho] at ho'
  cases ho'
  have h1 := hr e he hb
  rcases h with rfl | h
  · exact h1
  · exact anc_down hs hL e.on x h1 h

/-- the slots as the operation looked at them -/
def Link (ops : Array Oper) (A : List Nat) (t0 : Tm) (i : Nat) (o : Oper) (ti t : Tm) : Prop :=
  ∀ d ∈ o.looksAt ops, (∀ (j : Nat) (p : Oper), ops[j]? = some p → p.dst = some d → j ≠ i → bitA A i j = true → ti.get d = t.get d) ∧
    ((∀ (j : Nat) (p : Oper), ops[j]? = some p → p.dst = some d → j ≠ i → bitA A i j = false) → ti.get d = t0.get d)

/-- what a slot holds tells no more than v -/
def Holds (m : Nat) (t : Tm) (o : Oper) (v : AV) : Prop := ∀ d, o.dst = some d → d < m ∧ ∃ u, t.get d = some u ∧ ∀ (ρ : Den) (y : Value), VR ρ v y → VR ρ u y

/-- an operation that has been reckoned, and may still come up -/
inductive EvI (E : Env) (m : Nat) (ops : Array Oper) (A : List Nat) (t0 : Tm) (i : Nat) (o : Oper) (t : Tm) (h : Hf) : Option (Nat × AO) → Prop where
  | skip (ti : Tm) (hl : Link ops A t0 i o ti t) (hw : WantedIs ops o ti false) (hd : Holds m t o .undef) : EvI E m ops A t0 i o t h none
  | pure (ti : Tm) (hi : Hp) (v : AV) (hl : Link ops A t0 i o ti t) (hw : WantedIs ops o ti true) (h1 : Sub hi.get h) (h2 : readsB E o.op = false → hi = .nil) (hok : PureOK E o.op ti hi v) (hd : Holds m t o v) : EvI E m ops A t0 i o t h none
  | new (ti : Tm) (ob : AO) (mk : Nat → AV) (l : Nat) (hl : Link ops A t0 i o ti t) (hw : WantedIs ops o ti true) (hrd : readsB E o.op = false) (hok : NewOK E o.op ti ob mk) (hd : Holds m t o (mk l)) : EvI E m ops A t0 i o t h (some (l, ob))

/-- in the middle: D has been reckoned; S is listed for sure -/
structure Mid (E : Env) (m : Nat) (ops : Array Oper) (A : List Nat) (t0 : Tm) (n0 : Nat) (D S : Nat → Prop) (lab : Nat → Option (Nat × AO)) (t : Tm) (h : Hf) (n : Nat) : Prop where
  ev : ∀ (i : Nat) (o : Oper), ops[i]? = some o → D i → isW o.op = false → S i ∨ EvI E m ops A t0 i o t h (lab i)
  base : ∀ d, (∀ (i : Nat) (o : Oper), ops[i]? = some o → D i → o.dst ≠ some d) → t.get d = t0.get d
  inj : ∀ i j l ob ob', lab i = some (l, ob) → lab j = some (l, ob') → i = j
  lab1 : ∀ i l ob, lab i = some (l, ob) → D i ∧ n0 ≤ l ∧ l < n
  down : Down ops D
  n0 : n0 ≤ n

/-- the world in the middle: L is listed -/
structure WInv (ops : Array Oper) (m : Nat) (t0 : Tm) (ρ0 : Den) (h0 : Hf) (n0 : Nat) (w0 : World) (D S L : Nat → Prop) (lab : Nat → Option (Nat × AO)) (t : Tm) (h : Hf) (n : Nat) (ds : Ds) (ρ : Den) (a : Act) (w : World) : Prop where
  post : Post ρ0 h0 n0 w0 ρ h n w
  defers : DR ρ ds a.defers
  size : a.tmps.size = m
  sub : ∀ i, L i → D i
  wr : ∀ (i : Nat) (o : Oper), ops[i]? = some o → D i → isW o.op = true → L i
  sure : ∀ i, S i → L i
  done : ∀ (i : Nat) (o : Oper) (d : Tmp), ops[i]? = some o → L i → o.dst = some d → ∀ v, t.get d = some v → VR ρ v (a.tmps.getD d undef)
  rest : ∀ d, (∀ (i : Nat) (o : Oper), ops[i]? = some o → L i → o.dst ≠ some d) → ∀ v, t0.get d = some v → VR ρ v (a.tmps.getD d undef)
  pend : ∀ i l ob, lab i = some (l, ob) → ¬ L i → ρ.at_ l = none ∧ h l = some ob

theorem Rel.grow {ρ : Den} {h h' : Hf} {n n' : Nat} {w : World} (hr : Rel ρ h n w) (hn : n ≤ n') (hh : ∀ x b, ρ.at_ x = some b → h' x = h x) : Rel ρ h' n' w :=
  ⟨hr.floor, fun x b hx => ⟨(hr.dom x b hx).1, (hr.dom x b hx).2.1, by have := (hr.dom x b hx).2.2; omega⟩, fun x o b hx hb => hr.obj x o b (by rw [← hh x b hb]; exact hx) hb,
    fun x x' b o o' hx hx' ho ho' => hr.inj x x' b o o' hx hx' (by rw [← hh x b hx]; exact ho) (by rw [← hh x' b hx']; exact ho')⟩

/-- what is reckoned ahead turns nothing in the world -/
theorem Post.grow {ρ0 ρ : Den} {h0 h h' : Hf} {n0 n n' : Nat} {w0 w : World} (p : Post ρ0 h0 n0 w0 ρ h n w) (hn : n ≤ n') (hh : ∀ x, x < n → h' x = h x) : Post ρ0 h0 n0 w0 ρ h' n' w := by
  refine ⟨p.le, p.rel.grow hn (fun x b hx => hh x (p.rel.dom x b hx).2.2), Nat.le_trans p.mono hn, ?_, ?_, p.fresh, p.frame, p.size, p.os, p.tape, p.output⟩
  · intro l hl hnone
    obtain ⟨h1, h2⟩ := p.pend l hl hnone
    exact ⟨h1, by rw [hh l (Nat.lt_of_lt_of_le hl p.mono)]; exact h2⟩
  · intro l hl hnone
    rw [hh l (Nat.lt_of_lt_of_le hl p.mono)]
    exact p.old l hl hnone

/-- a label that was reckoned ahead gets its block -/
theorem Post.late {ρ0 ρ : Den} {h0 h : Hf} {n0 n l c : Nat} {w0 w : World} {ob : AO} {obj : Obj} (p : Post ρ0 h0 n0 w0 ρ h n w) (h1 : n0 ≤ l) (h2 : l < n) (hl : ρ.at_ l = none) (hh : h l = some ob) (ho : OR (ρ.put l w.heap.size c) l ob obj) :
    Post ρ0 h0 n0 w0 (ρ.put l w.heap.size c) h n { w with heap := w.heap.push obj } := by
  refine ⟨p.le.trans (Den.put_le hl), Rel.alloc p.rel hl (Nat.le_refl _) h2 hh (fun x _ => .inl rfl) ho, p.mono, ?_, p.old, ?_, ?_, ?_, p.os, p.tape, p.output⟩
  · intro x hx hnone
    obtain ⟨g1, g2⟩ := p.pend x hx hnone
    have : x ≠ l := by omega
    exact ⟨by simp [Den.put, this, g1], g2⟩
  · intro x b hx
    by_cases hxl : x = l
    · subst hxl
      rw [Den.put_same] at hx
      cases hx
      exact .inr (.inl p.size)
    · simp only [Den.put, if_neg hxl] at hx
      exact p.fresh x b hx
  · intro b hb hno
    have := p.size
    rw [Array.getElem?_push, if_neg (by omega)]
    exact p.frame b hb hno
  · have := p.size
    simp
    omega

theorem put_getD (a : Act) (d d' : Nat) (u : Value) (hd : d < a.tmps.size) : (a.put (some d) u).tmps.getD d' undef = if d' = d then u else a.tmps.getD d' undef := by
  rw [Act.put_tmps, Array.getD_eq_getD_getElem?, Array.getD_eq_getD_getElem?, Array.getElem?_setIfInBounds]
  by_cases h : d' = d
  · subst h; simp [hd]
  · rw [if_neg (Ne.symm h), if_neg h]

/-- an operation that may come up looks at what was looked at -/
theorem looked {L : Nat → Prop} {D S : Nat → Prop} {lab : Nat → Option (Nat × AO)} {t : Tm} {h : Hf} {n n0 : Nat} {ds : Ds} {ρ ρ0 : Den} {h0 : Hf} {w0 w : World} {a : Act} {i : Nat} {o : Oper} {ti : Tm}
    (hs : Stat ops A) (hL : Down ops L) (hw : WInv ops m t0 ρ0 h0 n0 w0 D S L lab t h n ds ρ a w) (ho : ops[i]? = some o) (hi : ¬ L i) (hr : ∀ e ∈ o.after, Region.binds .any e = true → L e.on) (hl : Link ops A t0 i o ti t) :
    ∀ d ∈ o.looksAt ops, ∀ v, ti.get d = some v → VR ρ v (a.tmps.getD d undef) := by
  intro d hd v hv
  obtain ⟨l1, l2⟩ := hl d hd
  by_cases hex : ∃ j p, ops[j]? = some p ∧ p.dst = some d ∧ j ≠ i ∧ bitA A i j = true
  · obtain ⟨j, p, g1, g2, g3, g4⟩ := hex
    have hj : L j := anc_ready hs hL ho hr g4
    rw [l1 j p g1 g2 g3 g4] at hv
    exact hw.done j p d g1 hj g2 v hv
  · have hno : ∀ (j : Nat) (p : Oper), ops[j]? = some p → p.dst = some d → j ≠ i → bitA A i j = false := by
      intro j p g1 g2 g3
      cases hb : bitA A i j with
      | false => rfl
      | true => exact absurd ⟨j, p, g1, g2, g3, hb⟩ hex
    rw [l2 hno] at hv
    refine hw.rest d (fun j p g1 g2 g3 => ?_) v hv
    by_cases hji : j = i
    · subst hji; exact hi g2
    · rcases hs.looks i o ho d hd j p g1 g3 hji with g4 | g4
      · rw [hno j p g1 g3 hji] at g4; cases g4
      · exact hi (anc_down hs hL j i g2 g4)
theorem ops_related {ρ : Den} {a : Act} {o : Oper} {ti : Tm} (hl : ∀ d ∈ o.looksAt ops, ∀ v, ti.get d = some v → VR ρ v (a.tmps.getD d undef)) : ∀ x, x ∈ o.op.operands → VR ρ (ev ti x) (a.eval x) := by
  intro x hx
  cases x with
  | tmp d =>
    show VR ρ ((ti.get d).getD .bad) (a.tmps.getD d undef)
    cases hg : ti.get d with
    | none => exact .bad _
    | some v =>
      refine hl d ?_ v hg
      unfold Oper.looksAt
      refine List.mem_append.2 (.inl (List.mem_filterMap.2 ⟨.tmp d, by simpa using hx, rfl⟩))
  | const v => exact ofV_vr ρ v
  | global g => exact .bad _
  | func f => exact .func f [] #[] rfl fun i x u hx => by simp at hx
theorem guard_related {ρ : Den} {a : Act} {o : Oper} {ti : Tm} (hl : ∀ d ∈ o.looksAt ops, ∀ v, ti.get d = some v → VR ρ v (a.tmps.getD d undef)) : ∀ d v, (o.guard.bind fun p => (ops[p.1]?).bind (·.dst)) = some d → ti.get d = some v → VR ρ v (a.tmps.getD d undef) := by
  intro d v hd hv
  refine hl d ?_ v hv
  unfold Oper.looksAt
  refine List.mem_append.2 (.inr ?_)
  cases hg : o.guard with
  | none => rw [hg] at hd; cases hd
  | some p =>
    rw [hg] at hd
    obtain ⟨g, b⟩ := p
    simp only [Option.bind_some] at hd
    simp [hd]
end
end Go.Proofs.YtgedmmmgkfehjaaGreatDoor
