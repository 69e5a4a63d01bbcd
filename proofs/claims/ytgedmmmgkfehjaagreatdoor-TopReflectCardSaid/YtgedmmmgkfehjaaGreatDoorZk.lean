/- Functions: arguments, results, deferred calls. What is said of a region whose order is drawn is taken as given here. -/
import Derived.Test.YtgedmmmgkfehjaaGreatDoorZj
import Derived.Recover
namespace Go.Proofs.YtgedmmmgkfehjaaGreatDoor

section
variable {β : Type} {E : Env}

/-! ### results -/
/-- one result -/
def resF (a : Array Value) (rv : ResultVar) : Sem Value := match rv with
  | .tmp t => pure (a.getD t undef)
  | .cell q ty => do loadVar ty (← asAddr (a.getD q undef))
theorem results_eq (fn : Func) (a : Array Value) : results fn a = (do let vs ← fn.results.mapM (resF a); pure (if h : vs.size = 1 then vs[0] else .tuple vs)) := by
  have : (fun x : ResultVar => (match x with | .tmp t => pure (a.getD t undef) | .cell q t => do loadVar t (← asAddr (a.getD q undef)) : Sem Value)) = resF a := by
    funext rv
    cases rv <;> rfl
  rw [← this]
  rfl
theorem resultL_ok {h : Hp} {t : Tm} : ∀ (l : List ResultVar) (vs : List AV), resultL E h t l = some vs →
    ∀ (ρ : Den) (w : World) (n : Nat) (a : Array Value), Rel ρ h.get n w → TR ρ t a →
      ∃ us : List Value, (l.mapM (resF a)).run E.P w = .ok us w ∧ VRs ρ vs us.toArray
  | [], vs, hr, ρ, w, n, a, hrel, ht => by
    have : some ([] : List AV) = some vs := hr
    cases this
    exact ⟨[], by simp, VRs.nil ρ⟩
  | .tmp x :: l, vs, hr, ρ, w, n, a, hrel, ht => by
    have hr' : (ob (t.get x) fun v => ob (resultL E h t l) fun vs => some (v :: vs)) = some vs := hr
    simp only [ob_some] at hr'
    obtain ⟨v, hv, vs', hvs, he⟩ := hr'
    cases he
    obtain ⟨us, g1, g2⟩ := resultL_ok l vs' hvs ρ w n a hrel ht
    refine ⟨a.getD x undef :: us, by simp only [List.mapM_cons, Sem.run_bind, Sem.run_pure, Result.andThen_ok, g1, resF], by simp [g2.1], fun i y u hy hu => ?_⟩
    cases i with
    | zero =>
      simp at hy hu
      subst hy
      subst hu
      simpa [Array.getD_eq_getD_getElem?] using ht x _ hv
    | succ i => exact g2.2 i y u (by simpa using hy) (by simpa using hu)
  | .cell q ty :: l, vs, hr, ρ, w, n, a, hrel, ht => by
    have hr' : (ob (t.get q) fun p => ob (E.loadV h ty p) fun v => ob (resultL E h t l) fun vs => some (v :: vs)) = some vs := hr
    simp only [ob_some] at hr'
    obtain ⟨p, hp, v, hv, vs', hvs, he⟩ := hr'
    cases he
    obtain ⟨us, g1, g2⟩ := resultL_ok l vs' hvs ρ w n a hrel ht
    obtain ⟨ad, h1, u, h2, h3⟩ := loadV_run hv hrel (ht q p hp)
    refine ⟨u :: us, ?_, by simp [g2.1], fun i y z hy hz => ?_⟩
    · simp only [List.mapM_cons, Sem.run_bind, Sem.run_pure, Result.andThen_ok, g1, resF, h1, asAddr, h2]
    · cases i with
      | zero => simp at hy hz; subst hy; subst hz; exact h3
      | succ i => exact g2.2 i y z (by simpa using hy) (by simpa using hz)
theorem resultK_ok {h : Hp} {t : Tm} {fn : Func} {k : AV → R β} {r : β} (hr : resultK E h t fn.results.toList k = some r) : ∃ v, k v = some r ∧
    ∀ (ρ : Den) (w : World) (n : Nat) (a : Array Value), Rel ρ h.get n w → TR ρ t a → ∃ u, (results fn a).run E.P w = .ok u w ∧ VR ρ v u := by
  unfold resultK at hr
  simp only [ob_some] at hr
  obtain ⟨vs, hvs, hr⟩ := hr
  have main : ∀ (ρ : Den) (w : World) (n : Nat) (a : Array Value), Rel ρ h.get n w → TR ρ t a → ∃ us : Array Value, (results fn a).run E.P w = .ok (if h : us.size = 1 then us[0] else .tuple us) w ∧ VRs ρ vs us := by
    intro ρ w n a hrel ht
    obtain ⟨us, g1, g2⟩ := resultL_ok _ _ hvs ρ w n a hrel ht
    refine ⟨us.toArray, ?_, g2⟩
    rw [results_eq, Array.mapM_eq_mapM_toList]
    simp only [Sem.run_bind, Sem.run_map, g1, Result.andThen_ok, Sem.run_pure]
  split at hr
  · rename_i v
    refine ⟨v, hr, fun ρ w n a hrel ht => ?_⟩
    obtain ⟨us, g1, g2⟩ := main ρ w n a hrel ht
    have hsz : us.size = 1 := by have := g2.1; simpa using this.symm
    rw [dif_pos hsz] at g1
    exact ⟨us[0], g1, g2.2 0 v us[0] rfl (by simp)⟩
  · rename_i hno
    refine ⟨_, hr, fun ρ w n a hrel ht => ?_⟩
    obtain ⟨us, g1, g2⟩ := main ρ w n a hrel ht
    have hsz : ¬ us.size = 1 := by
      intro h1
      have h2 := g2.1
      rw [h1] at h2
      match vs, h2, hno with
      | [v], _, hno => exact hno v rfl
    rw [dif_neg hsz] at g1
    exact ⟨_, g1, .tup _ _ g2.1 g2.2⟩

/-- a frame's beginning -/
theorem argsK_ok {m : Nat} {xs : List AV} {k : Tm → R β} {r : β} (hr : argsK m xs k = some r) : ∃ t, k t = some r ∧
    ∀ (ρ : Den) (us : Array Value), VRs ρ xs us → FR ρ m t [] { tmps := us ++ Array.replicate (m - us.size) undef, defers := [] } := by
  unfold argsK at hr
  rw [gd_some, lenL_eq] at hr
  obtain ⟨hle, hr⟩ := hr
  have hle' := Nat.le_of_ble_eq_true hle
  obtain ⟨t, hr, ht⟩ := fillK_nil _ _ _ hr
  refine ⟨t, hr, fun ρ us hv => ⟨fun i v hi => ?_, by have := hv.1; simp; omega, .nil⟩⟩
  rw [ht] at hi
  obtain ⟨u, hu, hvr⟩ := hv.get hi
  have hlt : i < us.size := (Array.getElem?_eq_some_iff.1 hu).1
  have : (us ++ Array.replicate (m - us.size) undef).getD i undef = u := by
    rw [Array.getD_eq_getD_getElem?, Array.getElem?_append_left hlt, hu]
    rfl
  show VR ρ v ((us ++ Array.replicate (m - us.size) undef).getD i undef)
  rw [this]
  exact hvr

/-! ### deferred functions -/
/-- what is said of a deferred function's code, where nothing is to be recovered -/
def CodeD (E : Env) (c : Code) (m : Nat) (t : Tm) (h : Hp) (n : Nat) (e : Ex) (t' : Tm) (h' : Hp) (n' : Nat) : Prop :=
  ∀ (ρ : Den) (a : Act) (c₀ : Frame) (cs : List Frame) (w : World), c₀.mode = .returning → SigOK E ρ → Rel ρ h.get n w → FR ρ m t [] a → ∀ Q : Exit → Act → List Frame → World → Prop,
    (∀ a' w', Nxt ρ h n w m t' h' n' [] a' w' → Q e.to a' (c₀ :: cs) w') → c.wpS E.P Q a (c₀ :: cs) w

theorem operD_ok {o : Oper} {m : Nat} {t : Tm} {h : Hp} {n : Nat} {k : Tm → Hp → Nat → R β} {r : β} (hr : operD E m o.dst o.op t h n k = some r) :
    ∃ t' h' n', k t' h' n' = some r ∧ ∀ (ρ : Den) (a : Act) (w : World), SigOK E ρ → Rel ρ h.get n w → FR ρ m t [] a →
      ((execOp a.eval o).run E.P w = .ok .recover w ∧ Nxt ρ h n w m t' h' n' [] (a.put o.dst .nilIface) w) ∨
      ∃ u w', ((execOp a.eval o).run E.P w = .ok (.value u) w' ∨ ((execOp a.eval o).run E.P w = .ok .skip w' ∧ u = undef)) ∧ Nxt ρ h n w m t' h' n' [] (a.put o.dst u) w' := by
  unfold operD at hr
  split at hr
  · rename_i args tys hop
    rw [gd_some] at hr
    obtain ⟨hemp, hr⟩ := hr
    obtain ⟨t', hr, hput⟩ := put_ok hr
    refine ⟨t', h, n, hr, fun ρ a w hsig hrel hf => .inl ⟨?_, ρ, Post.refl hrel, hput ρ [] a .nilIface hf .nilIface⟩⟩
    simp [execOp, hop, resolve, invoke, builtin]
  · rename_i hno
    generalize hcl : cls o.op = q at hr
    cases q with
    | pure =>
      obtain ⟨v, hr', hok⟩ := pureF_ok hr
      obtain ⟨t', hr', hput⟩ := put_ok hr'
      refine ⟨t', h, n, hr', fun ρ a w hsig hrel hf => .inr ?_⟩
      obtain ⟨u, g1, g2⟩ := hok ρ w a n o rfl hsig hrel fun x _ => hf.op x
      exact ⟨u, w, .inl g1, ρ, Post.refl hrel, hput ρ [] a u hf g2⟩
    | new =>
      obtain ⟨ob, mk, hr', hok⟩ := newF_ok hr
      obtain ⟨h', hr', hh⟩ := Tr.setK_spec _ _ _ _ _ hr'
      simp only [forceN_eq] at hr'
      obtain ⟨t', hr', hput⟩ := put_ok hr'
      refine ⟨t', h', n + 1, hr', fun ρ a w hsig hrel hf => .inr ?_⟩
      obtain ⟨obj, u, g1, g2⟩ := hok ρ w a o rfl fun x _ => hf.op x
      have hn : ρ.at_ n = none := by
        cases hq : ρ.at_ n with
        | none => rfl
        | some b => have := (hrel.dom n b hq).2.2; omega
      have hle : ρ.Le (ρ.put n w.heap.size 0) := Den.put_le hn
      obtain ⟨g3, g4⟩ := g2 (ρ.put n w.heap.size 0) n w.heap.size hle (Den.put_same ρ n _ _)
      exact ⟨_, _, .inl g1, _, Post.alloc hrel hh g3, hput _ [] a _ (hf.mono hle) g4⟩
    | write =>
      obtain ⟨v, h', n', hr', hok⟩ := writeF_ok hr
      obtain ⟨t', hr', hput⟩ := put_ok hr'
      refine ⟨t', h', n', hr', fun ρ a w hsig hrel hf => .inr ?_⟩
      obtain ⟨u, w', ρ', g1, g2, g3⟩ := hok ρ w a o rfl hsig hrel fun x _ => hf.op x
      exact ⟨u, w', g1, ρ', g2, hput ρ' [] a u (hf.mono g2.le) g3⟩
    | call => cases hr
    | defer => cases hr

theorem seqD_ok {m : Nat} {ops : Array Oper} : ∀ (l : List Oper) (i : Nat) (t : Tm) (h : Hp) (n : Nat) (k : Tm → Hp → Nat → R β) (r : β), (∀ j, l[j]? = ops[i + j]?) → seqD E m ops l t h n k = some r →
    ∃ t' h' n', k t' h' n' = some r ∧ ∀ (ρ : Den) (a : Act) (c₀ : Frame) (cs : List Frame) (w : World), c₀.mode = .returning → SigOK E ρ → Rel ρ h.get n w → FR ρ m t [] a → ∀ Q : Exit → Act → List Frame → World → Prop,
      (∀ a' w', Nxt ρ h n w m t' h' n' [] a' w' → Q .normal a' (c₀ :: cs) w') → wpOpsS E.P ops Q (List.range' i l.length) a (c₀ :: cs) w
  | [], i, t, h, n, k, r, _, hr => ⟨t, h, n, hr, fun ρ a c₀ cs w _ hsig hrel hf Q hQ => hQ a w ⟨ρ, Post.refl hrel, hf⟩⟩
  | o :: l, i, t, h, n, k, r, hl, hr => by
    have hr' : (wantedK ops o.guard t fun b => ifB b (operD E m o.dst o.op t h n fun t h n => seqD E m ops l t h n k) (put m t o.dst .undef fun t => seqD E m ops l t h n k)) = some r := hr
    obtain ⟨b, hr', hw⟩ := wantedK_ok hr'
    have ho : ops[i]? = some o := by simpa using (hl 0).symm
    have hl' : ∀ j, l[j]? = ops[i + 1 + j]? := fun j => by have := hl (j + 1); simpa [Nat.add_assoc, Nat.add_comm 1 j] using this
    cases b with
    | true =>
      obtain ⟨t1, h1, n1, hr1, hok⟩ := operD_ok (o := o) (show operD E m o.dst o.op t h n (fun t h n => seqD E m ops l t h n k) = some r from hr')
      obtain ⟨t2, h2, n2, hr2, hok2⟩ := seqD_ok l (i + 1) t1 h1 n1 k r hl' hr1
      refine ⟨t2, h2, n2, hr2, fun ρ a c₀ cs w hmode hsig hrel hf Q hQ => ?_⟩
      have step : ∀ a1 w1, Nxt ρ h n w m t1 h1 n1 [] a1 w1 → wpOpsS E.P ops Q (List.range' (i + 1) l.length) a1 (c₀ :: cs) w1 := by
        rintro a1 w1 ⟨ρ1, p1, p2⟩
        exact hok2 ρ1 a1 c₀ cs w1 hmode (hsig.le p1.le) p1.rel p2 Q fun a' w' hn => hQ a' w' (hn.trans hrel p1)
      rw [List.length_cons, List.range'_succ]
      unfold wpOpsS
      simp only [ho]
      rw [if_pos (hw ρ a.tmps fun d v _ hv => hf.tmps d v hv)]
      rcases hok ρ a w hsig hrel hf with ⟨g1, g2⟩ | ⟨u, w', g1 | ⟨g1, rfl⟩, g2⟩
      · rw [g1]
        have hrec : recoverD (c₀ :: cs) = none := by simp [recoverD, hmode]
        simp only [hrec]
        exact step _ _ g2
      · rw [g1]
        exact step _ _ g2
      · rw [g1]
        exact step _ _ g2
    | false =>
      obtain ⟨t1, hr1, hput⟩ := put_ok (show put m t o.dst .undef (fun t => seqD E m ops l t h n k) = some r from hr')
      obtain ⟨t2, h2, n2, hr2, hok2⟩ := seqD_ok l (i + 1) t1 h n k r hl' hr1
      refine ⟨t2, h2, n2, hr2, fun ρ a c₀ cs w hmode hsig hrel hf Q hQ => ?_⟩
      rw [List.length_cons, List.range'_succ]
      unfold wpOpsS
      simp only [ho]
      rw [hw ρ a.tmps fun d v _ hv => hf.tmps d v hv, if_neg (by simp)]
      exact hok2 ρ _ c₀ cs w hmode hsig hrel (hput ρ [] a undef hf .undef) Q hQ

theorem execD_ok (m : Nat) (c : Code) : ∀ (t : Tm) (h : Hp) (n : Nat) (k : Ex → Tm → Hp → Nat → R β) (r : β), execD E m c t h n k = some r → ∃ e t' h' n', k e t' h' n' = some r ∧ CodeD E c m t h n e t' h' n' := by
  induction c with
  | skip => exact fun t h n k r hr => ⟨.normal, t, h, n, hr, fun ρ a c₀ cs w _ hsig hrel hf Q hQ => wpS_of_wp (wp_skip (hQ a w ⟨ρ, Post.refl hrel, hf⟩))⟩
  | region id ops d =>
    intro t h n k r hr
    have hr' : (gd (!d) <| seqD E m ops ops.toList t h n fun t h n => k .normal t h n) = some r := hr
    rw [gd_some] at hr'
    obtain ⟨hd, hr'⟩ := hr'
    have hd' : d = false := by cases d <;> simp_all
    subst hd'
    obtain ⟨t', h', n', hr2, hok⟩ := seqD_ok (ops := ops) ops.toList 0 t h n _ r (by simp) hr'
    refine ⟨.normal, t', h', n', hr2, fun ρ a c₀ cs w hmode hsig hrel hf Q hQ => wpS_region ?_⟩
    have := hok ρ a c₀ cs w hmode hsig hrel hf Q hQ
    rw [List.range_eq_range']
    simpa using this
  | seq x y ihx ihy =>
    intro t h n k r hr
    have hr' : (execD E m x t h n fun e t h n => Ex.casesOn e (execD E m y t h n k) (fun j => k (.exit j) t h n) (k .ret t h n)) = some r := hr
    obtain ⟨e, t1, h1, n1, hr1, hok⟩ := ihx t h n _ r hr'
    cases e with
    | normal =>
      obtain ⟨e2, t2, h2, n2, hr2, hok2⟩ := ihy t1 h1 n1 k r hr1
      refine ⟨e2, t2, h2, n2, hr2, fun ρ a c₀ cs w hmode hsig hrel hf Q hQ => wpS_seq (hok ρ a c₀ cs w hmode hsig hrel hf _ ?_)⟩
      rintro a1 w1 ⟨ρ1, p1, p2⟩
      exact hok2 ρ1 a1 c₀ cs w1 hmode (hsig.le p1.le) p1.rel p2 Q fun a' w' hn => hQ a' w' (hn.trans hrel p1)
    | exit j => exact ⟨.exit j, t1, h1, n1, hr1, fun ρ a c₀ cs w hmode hsig hrel hf Q hQ => wpS_seq (hok ρ a c₀ cs w hmode hsig hrel hf _ fun a' w' hn => hQ a' w' hn)⟩
    | ret => exact ⟨.ret, t1, h1, n1, hr1, fun ρ a c₀ cs w hmode hsig hrel hf Q hQ => wpS_seq (hok ρ a c₀ cs w hmode hsig hrel hf _ fun a' w' hn => hQ a' w' hn)⟩
  | cond q x y ihx ihy =>
    intro t h n k r hr
    have hr' : (evK t q fun v => asBool' v fun b => ifB b (execD E m x t h n k) (execD E m y t h n k)) = some r := hr
    rw [evK_eq, asBool_some] at hr'
    obtain ⟨b, hb, hr'⟩ := hr'
    have hev : ∀ (ρ : Den) (a : Act), FR ρ m t [] a → a.eval q = .bool b := by
      intro ρ a hf
      have := hf.op q
      rw [hb] at this
      generalize a.eval q = u at this
      cases this
      rfl
    cases b with
    | true =>
      obtain ⟨e, t', h', n', hr2, hok⟩ := ihx t h n k r hr'
      exact ⟨e, t', h', n', hr2, fun ρ a c₀ cs w hmode hsig hrel hf Q hQ => wpS_cond (t := true) (hev ρ a hf) (hok ρ a c₀ cs w hmode hsig hrel hf Q hQ)⟩
    | false =>
      obtain ⟨e, t', h', n', hr2, hok⟩ := ihy t h n k r hr'
      exact ⟨e, t', h', n', hr2, fun ρ a c₀ cs w hmode hsig hrel hf Q hQ => wpS_cond (t := false) (hev ρ a hf) (hok ρ a c₀ cs w hmode hsig hrel hf Q hQ)⟩
  | ret => exact fun t h n k r hr => ⟨.ret, t, h, n, hr, fun ρ a c₀ cs w _ hsig hrel hf Q hQ => wpS_of_wp (wp_ret (hQ a w ⟨ρ, Post.refl hrel, hf⟩))⟩
  | _ => exact fun t h n k r hr => by cases hr
end
end Go.Proofs.YtgedmmmgkfehjaaGreatDoor
