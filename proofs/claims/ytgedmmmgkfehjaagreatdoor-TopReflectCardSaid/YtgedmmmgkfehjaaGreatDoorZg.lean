/- One operation of a region, and a region in the text's order. A region in the text's order. -/
import Derived.Test.YtgedmmmgkfehjaaGreatDoorZe5
namespace Go.Proofs.YtgedmmmgkfehjaaGreatDoor

/-- what is said of a call -/
def CallOK (E : Env) (f : FuncId) (xs : List AV) (h : Hp) (n : Nat) (v : AV) (h' : Hp) (n' : Nat) : Prop :=
  ∀ (ρ : Den) (w : World) (us : Array Value), SigOK E ρ → Rel ρ h.get n w → VRs ρ xs us →
    ((callFunc f us).run E.P w = .ok (.enter f us) w ∧ Calls E.P f us w fun e w' => match e with
      | .returned u => ∃ ρ', Post ρ h.get n w ρ' h'.get n' w' ∧ VR ρ' v u
      | _ => False) ∨
    (∃ u, (callFunc f us).run E.P w = .ok (.value u) w ∧ Post ρ h.get n w ρ h'.get n' w ∧ VR ρ v u)
def CallSound {β : Type} (E : Env) (call : CallF β) : Prop :=
  ∀ (f : FuncId) (xs : List AV) (h : Hp) (n : Nat) (k : AV → Hp → Nat → R β) (r : β), call f xs h n k = some r → ∃ v h' n', k v h' n' = some r ∧ CallOK E f xs h n v h' n'

/-- a frame over labels -/
structure FR (ρ : Den) (m : Nat) (t : Tm) (ds : Ds) (a : Act) : Prop where
  tmps : TR ρ t a.tmps
  size : a.tmps.size = m
  defers : DR ρ ds a.defers
theorem FR.mono {ρ ρ' : Den} (hr : ρ.Le ρ') {m : Nat} {t : Tm} {ds : Ds} {a : Act} (h : FR ρ m t ds a) : FR ρ' m t ds a := ⟨h.tmps.mono hr, h.size, h.defers.mono hr⟩

/-- what comes behind -/
def Nxt (ρ : Den) (h : Hp) (n : Nat) (w : World) (m : Nat) (t' : Tm) (h' : Hp) (n' : Nat) (ds' : Ds) (a' : Act) (w' : World) : Prop :=
  ∃ ρ', Post ρ h.get n w ρ' h'.get n' w' ∧ FR ρ' m t' ds' a'

theorem Act.put_tmps (a : Act) (d : Tmp) (v : Value) : (a.put (some d) v).tmps = a.tmps.setIfInBounds d v := rfl
theorem FR.put {ρ : Den} {m : Nat} {t t' : Tm} {ds : Ds} {a : Act} {d : Tmp} {v : AV} {u : Value} (h : FR ρ m t ds a) (hd : d < m) (ht : ∀ i, t'.get i = if i = d then some v else t.get i) (hv : VR ρ v u) : FR ρ m t' ds (a.put (some d) u) := by
  refine ⟨fun i x hx => ?_, by rw [Act.put_tmps, Array.size_setIfInBounds]; exact h.size, h.defers⟩
  rw [ht] at hx
  rw [Act.put_tmps]
  by_cases hi : i = d
  · subst hi
    rw [if_pos rfl] at hx
    cases hx
    have : i < a.tmps.size := by rw [h.size]; exact hd
    simp [Array.getD_eq_getD_getElem?, this]
    exact hv
  · rw [if_neg hi] at hx
    have := h.tmps i x hx
    simp [Array.getD_eq_getD_getElem?, Ne.symm hi] at this ⊢
    exact this
theorem put_ok {β : Type} {m : Nat} {t : Tm} {d : Option Tmp} {v : AV} {k : Tm → R β} {r : β} (hr : put m t d v k = some r) :
    ∃ t', k t' = some r ∧ ∀ (ρ : Den) (ds : Ds) (a : Act) (u : Value), FR ρ m t ds a → VR ρ v u → FR ρ m t' ds (a.put d u) := by
  cases d with
  | none => exact ⟨t, hr, fun ρ ds a u h _ => h⟩
  | some d =>
    have hr' : gd (Nat.ble (Nat.succ d) m) (Tr.setK (some v) t d k) = some r := hr
    rw [gd_some] at hr'
    obtain ⟨hd, hr'⟩ := hr'
    obtain ⟨t', hr', ht⟩ := Tr.setK_spec _ _ _ _ _ hr'
    exact ⟨t', hr', fun ρ ds a u h hv => h.put (Nat.le_of_ble_eq_true hd) ht hv⟩

section
variable {β : Type} {E : Env} {call : CallF β} {m : Nat} {t : Tm} {h : Hp} {n : Nat} {ds : Ds} {k : Tm → Hp → Nat → Ds → R β} {r : β}

theorem FR.op {ρ : Den} {a : Act} (hf : FR ρ m t ds a) (x : Operand) : VR ρ (ev t x) (a.eval x) := opR_of_TR hf.tmps x
theorem FR.ops {ρ : Den} {a : Act} (hf : FR ρ m t ds a) (l : Array Operand) : VRs ρ (l.toList.map (ev t)) (l.map a.eval) := by
  refine ⟨by simp, fun i x u hx hu => ?_⟩
  rw [List.getElem?_map, Array.getElem?_toList] at hx
  rw [Array.getElem?_map] at hu
  cases hl : l[i]? with
  | none => simp [hl] at hx
  | some y =>
    simp [hl] at hx hu
    subst hx
    subst hu
    exact hf.op y

/-- the callee's value -/
theorem resolve_run {P : Program} {w : World} {a : Act} {c : Call} {f : Operand} {fn : FuncId} {us : Array Value} {ty : TypeId} (hc : c.callee = .value f) (hf : a.eval f = .func (.func fn) #[] us) :
    (resolve a.eval c ty).run P w = .ok { target := .fn (.func fn) us, args := c.args.map a.eval } w := by
  simp [resolve, hc, hf, Deferred.ofValue]

theorem callOp_ok {o : Oper} {c : Call} {k : AV → Hp → Nat → R β} (hcall : CallSound E call) (ho : o.op = .call c) (hr : callOp call c t h n k = some r) :
    ∃ v h' n', k v h' n' = some r ∧ ∀ (ρ : Den) (a : Act) (w : World), SigOK E ρ → Rel ρ h.get n w → FR ρ m t ds a → ∀ (K : Act → World → Prop) (Q : Exit → Act → World → Prop),
      (∀ u w' ρ', Post ρ h.get n w ρ' h'.get n' w' → VR ρ' v u → K (a.put o.dst u) w') → o.wp E.P a w K Q := by
  unfold callOp at hr
  obtain ⟨callee, args, tys⟩ := c
  cases callee <;> simp only [reduceCtorEq, evK_eq, evsK_eq, asFunc_some] at hr
  rename_i f
  obtain ⟨fn, xs, hfx, hr⟩ := hr
  obtain ⟨v, h', n', hr, hok⟩ := hcall _ _ _ _ _ _ hr
  refine ⟨v, h', n', hr, fun ρ a w hsig hrel hf K Q hK => ?_⟩
  have h1 := hf.op f
  rw [hfx] at h1
  generalize hu : a.eval f = u at h1
  cases h1
  rename_i us g1 g2
  have hvs : VRs ρ (args.toList.map (ev t) ++ xs) (args.map a.eval ++ us) := (hf.ops args).append ⟨g1, g2⟩
  have hexec : (execOp a.eval o).run E.P w = (callFunc fn (args.map a.eval ++ us)).run E.P w := by
    simp only [execOp, ho, Sem.run_bind, resolve_run (c := { callee := .value f, args, argTypes := tys }) rfl hu, Result.andThen_ok, invoke]
  unfold Oper.wp
  rw [hexec]
  rcases hok ρ w _ hsig hrel hvs with ⟨g3, g4⟩ | ⟨u, g3, g4, g5⟩
  · rw [g3]
    show Calls _ _ _ _ _
    refine g4.mono fun e w' he => ?_
    cases e with
    | returned u => obtain ⟨ρ', p1, p2⟩ := he; exact hK u w' ρ' p1 p2
    | panicked ch => exact he.elim
    | outgrown => exact he.elim
  · rw [g3]
    exact hK u w ρ g4 g5

theorem DR.cons' {ρ : Den} {f : FuncId} {xs ys : List AV} {us cap : Array Value} {ds : Ds} {es : List Deferred} (h : VRs ρ (xs ++ ys) (us ++ cap)) (h2 : DR ρ ds es) : DR ρ ((f, xs ++ ys) :: ds) ({ target := .fn (.func f) cap, args := us } :: es) := .cons f _ us cap ds es h h2

theorem operF_ok {o : Oper} (hcall : CallSound E call) (hr : operF E call m o.dst o.op t h n ds k = some r) :
    ∃ t' h' n' ds', k t' h' n' ds' = some r ∧ ∀ (ρ : Den) (a : Act) (w : World), SigOK E ρ → Rel ρ h.get n w → FR ρ m t ds a → ∀ Q, o.wp E.P a w (Nxt ρ h n w m t' h' n' ds') Q := by
  unfold operF at hr
  generalize hcl : cls o.op = q at hr
  cases q with
  | pure =>
    have hr' : (pureF E o.op t h fun v => put m t o.dst v fun t => k t h n ds) = some r := hr
    obtain ⟨v, hr', hok⟩ := pureF_ok hr'
    obtain ⟨t', hr', hput⟩ := put_ok hr'
    refine ⟨t', h, n, ds, hr', fun ρ a w hsig hrel hf Q => ?_⟩
    obtain ⟨u, g1, g2⟩ := hok ρ w a n o rfl hsig hrel fun x _ => hf.op x
    unfold Oper.wp
    rw [g1]
    exact ⟨ρ, Post.refl hrel, hput ρ ds a u hf g2⟩
  | new =>
    have hr' : (newF E o.op t fun ob mk => Tr.setK (some ob) h n fun h => forceN (Nat.succ n) fun n' => put m t o.dst (mk n) fun t => k t h n' ds) = some r := hr
    obtain ⟨ob, mk, hr', hok⟩ := newF_ok hr'
    obtain ⟨h', hr', hh⟩ := Tr.setK_spec _ _ _ _ _ hr'
    simp only [forceN_eq] at hr'
    obtain ⟨t', hr', hput⟩ := put_ok hr'
    refine ⟨t', h', n + 1, ds, hr', fun ρ a w hsig hrel hf Q => ?_⟩
    obtain ⟨obj, u, g1, g2⟩ := hok ρ w a o rfl fun x _ => hf.op x
    have hn : ρ.at_ n = none := by
      cases hq : ρ.at_ n with
      | none => rfl
      | some b => have := (hrel.dom n b hq).2.2; omega
    have hle : ρ.Le (ρ.put n w.heap.size 0) := Den.put_le hn
    obtain ⟨g3, g4⟩ := g2 (ρ.put n w.heap.size 0) n w.heap.size hle (Den.put_same ρ n _ _)
    unfold Oper.wp
    rw [g1]
    exact ⟨_, Post.alloc hrel hh g3, hput _ ds a _ (hf.mono hle) g4⟩
  | write =>
    have hr' : (writeF E o.op t h n fun v h n => put m t o.dst v fun t => k t h n ds) = some r := hr
    obtain ⟨v, h', n', hr', hok⟩ := writeF_ok hr'
    obtain ⟨t', hr', hput⟩ := put_ok hr'
    refine ⟨t', h', n', ds, hr', fun ρ a w hsig hrel hf Q => ?_⟩
    obtain ⟨u, w', ρ', g1, g2, g3⟩ := hok ρ w a o rfl hsig hrel fun x _ => hf.op x
    unfold Oper.wp
    rcases g1 with g1 | ⟨g1, rfl⟩
    · rw [g1]
      exact ⟨ρ', g2, hput ρ' ds a u (hf.mono g2.le) g3⟩
    · rw [g1]
      exact ⟨ρ', g2, hput ρ' ds a undef (hf.mono g2.le) g3⟩
  | call =>
    have hr' : cS call m o.dst o.op t h n ds k = some r := hr
    unfold cS at hr'
    split at hr'
    · rename_i c hc
      obtain ⟨v, h', n', hr', hok⟩ := callOp_ok (m := m) (ds := ds) (o := o) hcall hc hr'
      obtain ⟨t', hr', hput⟩ := put_ok hr'
      refine ⟨t', h', n', ds, hr', fun ρ a w hsig hrel hf Q => ?_⟩
      exact hok ρ a w hsig hrel hf _ Q fun u w' ρ' g2 g3 => ⟨ρ', g2, hput ρ' ds a u (hf.mono g2.le) g3⟩
    · cases hr'
  | defer =>
    have hr' : dS m o.dst o.op t h n ds k = some r := hr
    unfold dS at hr'
    split at hr'
    · rename_i c hc
      unfold deferOp at hr'
      obtain ⟨callee, args, tys⟩ := c
      cases callee <;> simp only [reduceCtorEq, evK_eq, evsK_eq, asFunc_some] at hr'
      rename_i f
      obtain ⟨fn, xs, hfx, hr'⟩ := hr'
      obtain ⟨t', hr', hput⟩ := put_ok hr'
      refine ⟨t', h, n, _, hr', fun ρ a w hsig hrel hf Q => ?_⟩
      have h1 := hf.op f
      rw [hfx] at h1
      generalize hu : a.eval f = u at h1
      cases h1
      rename_i us g1 g2
      have hvs : VRs ρ (args.toList.map (ev t) ++ xs) (args.map a.eval ++ us) := (hf.ops args).append ⟨g1, g2⟩
      have hexec : (execOp a.eval o).run E.P w = .ok (.defer { target := .fn (.func fn) us, args := args.map a.eval }) w := by
        simp only [execOp, hc, Sem.run_bind, resolve_run (c := { callee := .value f, args, argTypes := tys }) rfl hu, Result.andThen_ok, Sem.run_pure]
      unfold Oper.wp
      rw [hexec]
      exact ⟨ρ, Post.refl hrel, hput ρ _ { a with defers := { target := .fn (.func fn) us, args := args.map a.eval } :: a.defers } undef ⟨hf.tmps, hf.size, .cons fn _ _ us ds _ hvs hf.defers⟩ .undef⟩
    · cases hr'
end
end Go.Proofs.YtgedmmmgkfehjaaGreatDoor

namespace Go.Proofs.YtgedmmmgkfehjaaGreatDoor

section
variable {β : Type} {E : Env} {call : CallF β} {m : Nat} {ops : Array Oper} {t : Tm} {h : Hp} {n : Nat} {ds : Ds} {r : β}

theorem wantedK_ok {o : Oper} {k : Bool → R β} (hr : wantedK ops o.guard t k = some r) : ∃ b, k b = some r ∧ ∀ (ρ : Den) (a : Array Value), (∀ d v, (o.guard.bind fun p => (ops[p.1]?).bind (·.dst)) = some d → t.get d = some v → VR ρ v (a.getD d undef)) → Region.wanted o (yielded ops a) = b := by
  generalize hg : o.guard = g at hr
  cases g with
  | none => exact ⟨true, hr, fun ρ a _ => by simp [Region.wanted, hg]⟩
  | some p =>
    have hr' : wantedG ops t k p = some r := hr
    unfold wantedG at hr'
    simp only [ob_some] at hr'
    obtain ⟨d, hd, v, hv, hr'⟩ := hr'
    cases v <;> simp only [reduceCtorEq, forceB_eq] at hr'
    · refine ⟨false, hr', fun ρ a ha => ?_⟩
      have h1 := ha d _ (by simp [hd]) hv
      generalize hu : a.getD d undef = u at h1
      cases h1
      have hy : yielded ops a p.1 = none := by
        unfold yielded
        rw [hd]
        simp only [Option.bind_some]
        rw [Array.getD_eq_getD_getElem?] at hu
        cases hx : a[d]? with
        | none => rfl
        | some x =>
          rw [hx] at hu
          simp at hu
          subst hu
          rfl
      simp [Region.wanted, hg, hy]
    · rename_i b
      refine ⟨b == p.2, hr', fun ρ a ha => ?_⟩
      have h1 := ha d _ (by simp [hd]) hv
      generalize hu : a.getD d undef = u at h1
      cases h1
      have hy : yielded ops a p.1 = some b := by
        unfold yielded
        rw [hd]
        simp only [Option.bind_some]
        rw [Array.getD_eq_getD_getElem?] at hu
        cases hx : a[d]? with
        | none =>
          rw [hx] at hu
          simp [undef] at hu
        | some x =>
          rw [hx] at hu
          simp at hu
          subst hu
          rfl
      simp only [Region.wanted, hg, hy]
      cases b <;> cases p.2 <;> rfl

/-- one operation, carried out or not -/
theorem oneF_ok {o : Oper} {k : Tm → Hp → Nat → Ds → R β} (hcall : CallSound E call) (hr : oneF E call m ops o t h n ds k = some r) :
    ∃ t' h' n' ds', k t' h' n' ds' = some r ∧ ∀ (ρ : Den) (a : Act) (w : World), SigOK E ρ → Rel ρ h.get n w → FR ρ m t ds a → ∀ Q,
      if Region.wanted o (yielded ops a.tmps) = true then o.wp E.P a w (Nxt ρ h n w m t' h' n' ds') Q else Nxt ρ h n w m t' h' n' ds' (a.put o.dst undef) w := by
  have hr' : (wantedK ops o.guard t fun b => ifB b (operF E call m o.dst o.op t h n ds k) (put m t o.dst .undef fun t => k t h n ds)) = some r := hr
  obtain ⟨b, hr', hw⟩ := wantedK_ok hr'
  cases b with
  | true =>
    obtain ⟨t', h', n', ds', hr', hok⟩ := operF_ok hcall (o := o) hr'
    refine ⟨t', h', n', ds', hr', fun ρ a w hsig hrel hf Q => ?_⟩
    rw [if_pos (hw ρ a.tmps fun d v _ hv => hf.tmps d v hv)]
    exact hok ρ a w hsig hrel hf Q
  | false =>
    obtain ⟨t', hr', hput⟩ := put_ok (show put m t o.dst .undef (fun t => k t h n ds) = some r from hr')
    refine ⟨t', h, n, ds, hr', fun ρ a w hsig hrel hf Q => ?_⟩
    rw [hw ρ a.tmps fun d v _ hv => hf.tmps d v hv, if_neg (by simp)]
    exact ⟨ρ, Post.refl hrel, hput ρ ds a undef hf .undef⟩

theorem Nxt.trans {ρ : Den} {h1 h2 : Hp} {n1 n2 : Nat} {w w1 w2 : World} {t2 : Tm} {ds2 : Ds} {a2 : Act} {ρ1 : Den} (hrel : Rel ρ h.get n w) (p : Post ρ h.get n w ρ1 h1.get n1 w1) (q : Nxt ρ1 h1 n1 w1 m t2 h2 n2 ds2 a2 w2) : Nxt ρ h n w m t2 h2 n2 ds2 a2 w2 := by
  obtain ⟨ρ2, q1, q2⟩ := q
  exact ⟨ρ2, Post.trans hrel p q1, q2⟩

theorem seqF_ok (hcall : CallSound E call) : ∀ (l : List Oper) (i : Nat) (t : Tm) (h : Hp) (n : Nat) (ds : Ds) (k : Tm → Hp → Nat → Ds → R β), (∀ j, l[j]? = ops[i + j]?) → seqF E call m ops l t h n ds k = some r →
    ∃ t' h' n' ds', k t' h' n' ds' = some r ∧ ∀ (ρ : Den) (a : Act) (w : World), SigOK E ρ → Rel ρ h.get n w → FR ρ m t ds a → ∀ Q : Exit → Act → World → Prop,
      (∀ a' w', Nxt ρ h n w m t' h' n' ds' a' w' → Q .normal a' w') → wpOps E.P ops Q (List.range' i l.length) a w
  | [], i, t, h, n, ds, k, _, hr => ⟨t, h, n, ds, hr, fun ρ a w hsig hrel hf Q hQ => hQ a w ⟨ρ, Post.refl hrel, hf⟩⟩
  | o :: l, i, t, h, n, ds, k, hl, hr => by
    have hr' : (oneF E call m ops o t h n ds fun t h n ds => seqF E call m ops l t h n ds k) = some r := hr
    obtain ⟨t1, h1, n1, ds1, hr1, hok⟩ := oneF_ok hcall hr'
    obtain ⟨t2, h2, n2, ds2, hr2, hok2⟩ := seqF_ok hcall l (i + 1) t1 h1 n1 ds1 k (fun j => by have := hl (j + 1); simpa [Nat.add_assoc, Nat.add_comm 1 j] using this) hr1
    refine ⟨t2, h2, n2, ds2, hr2, fun ρ a w hsig hrel hf Q hQ => ?_⟩
    have ho : ops[i]? = some o := by simpa using (hl 0).symm
    have step : ∀ a1 w1, Nxt ρ h n w m t1 h1 n1 ds1 a1 w1 → wpOps E.P ops Q (List.range' (i + 1) l.length) a1 w1 := by
      rintro a1 w1 ⟨ρ1, p1, p2⟩
      exact hok2 ρ1 a1 w1 (hsig.le p1.le) p1.rel p2 Q fun a' w' hn => hQ a' w' (hn.trans hrel p1)
    have hone := hok ρ a w hsig hrel hf Q
    rw [List.length_cons, List.range'_succ]
    unfold wpOps
    simp only [ho]
    by_cases hw : Region.wanted o (yielded ops a.tmps) = true
    · rw [if_pos hw] at hone ⊢
      exact .inl (Oper.wp_mono step hone)
    · rw [if_neg hw] at hone ⊢
      exact step _ _ hone

/-- a region whose order is the text's -/
theorem seq_region {id : Nat} {k : Tm → Hp → Nat → Ds → R β} (hcall : CallSound E call) (hr : seqF E call m ops ops.toList t h n ds k = some r) :
    ∃ t' h' n' ds', k t' h' n' ds' = some r ∧ ∀ (ρ : Den) (a : Act) (w : World), SigOK E ρ → Rel ρ h.get n w → FR ρ m t ds a → ∀ Q : Exit → Act → World → Prop,
      (∀ a' w', Nxt ρ h n w m t' h' n' ds' a' w' → Q .normal a' w') → (Code.region id ops false).wp E.P Q a w := by
  obtain ⟨t', h', n', ds', hr', hok⟩ := seqF_ok (ops := ops) hcall ops.toList 0 t h n ds k (by simp) hr
  refine ⟨t', h', n', ds', hr', fun ρ a w hsig hrel hf Q hQ => wp_region ?_⟩
  have := hok ρ a w hsig hrel hf Q hQ
  rw [List.range_eq_range']
  simpa using this
end
end Go.Proofs.YtgedmmmgkfehjaaGreatDoor
