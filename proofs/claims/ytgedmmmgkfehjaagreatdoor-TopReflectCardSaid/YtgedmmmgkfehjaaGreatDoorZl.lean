/- Functions and the reckoner as a whole. What is said of a region whose order is drawn is taken as given here. -/
import Derived.Test.YtgedmmmgkfehjaaGreatDoorZk
namespace Go.Proofs.YtgedmmmgkfehjaaGreatDoor

/-- what is asked of the program -/
structure EnvOK (E : Env) : Prop where
  noEsc : ∀ (w : World) (x : Value), (callFunc E.noEscape #[x]).run E.P w = .ok (.value x) w
  bits : ∀ (w : World) (b : Nat), (callFunc E.fromBits #[.int .u64 b]).run E.P w = .ok (.value (.float .f64 b)) w
  mixed : E.P.follows .mixedOrders = true

section
variable {β : Type} {E : Env}

theorem run_enter {P : Program} {f : FuncId} {fn : Func} {c : Code} (hf : P.funcs[f]? = some fn) (hb : fn.body = some c) (hn : (fn.name != "runtime.NumGoroutine") = true) (us : Array Value) (w : World) :
    (callFunc f us).run P w = .ok (.enter f us) w := by
  have hn' : (fn.name == "runtime.NumGoroutine") = false := by
    cases hq : (fn.name == "runtime.NumGoroutine") with
    | false => rfl
    | true => simp [bne, hq] at hn
  simp only [callFunc, Sem.run_bind, run_program, Result.andThen_ok, hf, hn', hb]
  rfl

theorem callD_ok {f : FuncId} {xs : List AV} {h : Hp} {n : Nat} {k : Hp → Nat → R β} {r : β} (hr : callD E f xs h n k = some r) : ∃ h' n', k h' n' = some r ∧
    ∀ (ρ : Den) (w : World) (us : Array Value), SigOK E ρ → Rel ρ h.get n w → VRs ρ xs us → (callFunc f us).run E.P w = .ok (.enter f us) w ∧
      CallsD E.P f us .returning w fun e u w' => match e with
        | .returned _ => u = .returning ∧ ∃ ρ', Post ρ h.get n w ρ' h'.get n' w'
        | _ => False := by
  unfold callD at hr
  simp only [ob_some, gd_some] at hr
  obtain ⟨fn, hf, c, hb, hn, hr⟩ := hr
  obtain ⟨t, hr, hargs⟩ := argsK_ok hr
  obtain ⟨e, t', h', n', hr, hok⟩ := execD_ok fn.ntmps c t h n _ r hr
  have fin : ∃ v, k h' n' = some r ∧ (e = .normal ∨ e = .ret) ∧ ∀ (ρ : Den) (w : World) (n : Nat) (a : Array Value), Rel ρ h'.get n w → TR ρ t' a → ∃ u, (results fn a).run E.P w = .ok u w ∧ VR ρ v u := by
    cases e with
    | normal => obtain ⟨v, h1, h2⟩ := resultK_ok (show resultK E h' t' fn.results.toList (fun _ => k h' n') = some r from hr); exact ⟨v, h1, .inl rfl, h2⟩
    | ret => obtain ⟨v, h1, h2⟩ := resultK_ok (show resultK E h' t' fn.results.toList (fun _ => k h' n') = some r from hr); exact ⟨v, h1, .inr rfl, h2⟩
    | exit j => cases hr
  obtain ⟨v, hr, he, hres⟩ := fin
  refine ⟨h', n', hr, fun ρ w us hsig hrel hv => ⟨run_enter hf hb hn us w, callsD_of_wpS hf hb fun c₀ cs hmode => ?_⟩⟩
  refine hok ρ _ c₀ cs w hmode hsig hrel (hargs ρ us hv) _ ?_
  rintro a' w' ⟨ρ', p1, p2⟩
  obtain ⟨u, g1, g2⟩ := hres ρ' w' n' a'.tmps p1.rel p2.tmps
  have hd : a'.defers = [] := by
    have := p2.defers
    generalize a'.defers = q at this
    cases this
    rfl
  have hc : c₀ = { c₀ with mode := .returning } := by cases c₀; simp_all
  rcases he with rfl | rfl
  · exact ⟨hd, .returning, by rw [← hc], u, g1, rfl, ρ', p1⟩
  · exact ⟨hd, .returning, by rw [← hc], u, g1, rfl, ρ', p1⟩

theorem leaveF_ok {fn : Func} {t : Tm} {k : AV → Hp → Nat → R β} {r : β} : ∀ (ds : Ds) (h : Hp) (n : Nat), leaveF E fn t ds h n k = some r → ∃ v h' n', k v h' n' = some r ∧
    ∀ (ρ : Den) (w : World) (a : Array Value) (es : List Deferred), SigOK E ρ → Rel ρ h.get n w → TR ρ t a → DR ρ ds es →
      Leaves E.P fn a (fun e w' => match e with | .returned u => ∃ ρ', Post ρ h.get n w ρ' h'.get n' w' ∧ VR ρ' v u | _ => False) es .returning w
  | [], h, n, hr => by
    obtain ⟨v, hr', hres⟩ := resultK_ok (show resultK E h t fn.results.toList (fun v => k v h n) = some r from hr)
    refine ⟨v, h, n, hr', fun ρ w a es hsig hrel ht hd => ?_⟩
    cases hd
    obtain ⟨u, g1, g2⟩ := hres ρ w n a hrel ht
    exact ⟨u, g1, ρ, Post.refl hrel, g2⟩
  | d :: ds, h, n, hr => by
    have hr' : callD E d.1 d.2 h n (fun h n => leaveF E fn t ds h n k) = some r := hr
    obtain ⟨h1, n1, hr1, hok⟩ := callD_ok hr'
    obtain ⟨v, h2, n2, hr2, hok2⟩ := leaveF_ok ds h1 n1 hr1
    refine ⟨v, h2, n2, hr2, fun ρ w a es hsig hrel ht hd => ?_⟩
    cases hd
    rename_i f xs us cap es hv hd
    obtain ⟨g1, g2⟩ := hok ρ w (us ++ cap) hsig hrel hv
    refine leaves_cons (by simp) (by simpa [invoke] using g1) (g2.mono fun e u w' he => ?_)
    cases e with
    | returned x =>
      obtain ⟨rfl, ρ1, p1⟩ := he
      have := hok2 ρ1 w' a es (hsig.le p1.le) p1.rel (ht.mono p1.le) (hd.mono p1.le)
      have hset : settle FrameMode.returning = .returning := rfl
      show Leaves E.P fn a _ es (settle .returning) w'
      rw [hset]
      have mono : ∀ (es : List Deferred) (u : FrameMode) (w : World) (R R' : Ending → World → Prop), (∀ e w, R e w → R' e w) → Leaves E.P fn a R es u w → Leaves E.P fn a R' es u w := by
        intro es
        induction es with
        | nil =>
          intro u w R R' hR hl
          cases u with
          | run => exact hl.elim
          | returning => obtain ⟨v, h1, h2⟩ := hl; exact ⟨v, h1, hR _ _ h2⟩
          | panicking ch => exact hR _ _ hl
        | cons d es ih =>
          intro u w R R' hR hl
          obtain ⟨h1, fv, cap, f, args, h2, h3, h4⟩ := hl
          refine ⟨h1, fv, cap, f, args, h2, h3, h4.mono fun e u' w' he => ?_⟩
          cases e with
          | returned x => exact ih _ _ _ _ hR he
          | panicked ch => exact ih _ _ _ _ hR he
          | outgrown => exact hR _ _ he
      refine mono es _ _ _ _ (fun e w2 he => ?_) this
      cases e with
      | returned y => obtain ⟨ρ2, q1, q2⟩ := he; exact ⟨ρ2, Post.trans hrel p1 q1, q2⟩
      | panicked ch => exact he.elim
      | outgrown => exact he.elim
    | panicked ch => exact he.elim
    | outgrown => exact he.elim

theorem stepF_ok {call : CallF β} (hE : EnvOK E) (hreg : RegSound β E call) : CallSound E (stepF E call) := by
  intro f xs h n k r hr
  unfold stepF at hr
  simp only [ob_some] at hr
  obtain ⟨fn, hf, hr⟩ := hr
  generalize hb : fn.body = b at hr
  cases b with
  | none =>
    have hr' : (ifB (Nat.beq f E.noEscape) (match (generalizing := false) xs with | [x] => k x h n | _ => none) <| gd (Nat.beq f E.fromBits) (match (generalizing := false) xs with | [.int .u64 (.ofNat b)] => k (.float .f64 b) h n | _ => none)) = some r := hr
    rw [ifB_eq] at hr'
    split at hr'
    · rename_i hid
      rw [Nat.beq_eq] at hid
      subst hid
      split at hr'
      · rename_i x
        refine ⟨x, h, n, hr', fun ρ w us hsig hrel hv => .inr ?_⟩
        obtain ⟨us⟩ := us
        have hl := hv.1
        match us, hl, hv with
        | [u], _, hv => exact ⟨u, hE.noEsc w u, Post.refl hrel, hv.2 0 x u rfl rfl⟩
      · cases hr'
    · rw [gd_some] at hr'
      obtain ⟨hid, hr'⟩ := hr'
      rw [Nat.beq_eq] at hid
      subst hid
      split at hr'
      · rename_i b
        refine ⟨_, h, n, hr', fun ρ w us hsig hrel hv => .inr ?_⟩
        obtain ⟨us⟩ := us
        have hl := hv.1
        match us, hl, hv with
        | [u], _, hv =>
          have h1 := hv.2 0 _ u rfl rfl
          cases h1
          exact ⟨_, hE.bits w b, Post.refl hrel, .float _ _⟩
      · cases hr'
  | some c =>
    have hr' : (gd (fn.name != "runtime.NumGoroutine") <| argsK fn.ntmps xs fun t => execF E call 1000000 fn.ntmps c t h n [] fun e t h n ds =>
      Ex.casesOn e (leaveF E fn t ds h n k) (fun _ => none) (leaveF E fn t ds h n k)) = some r := hr
    rw [gd_some] at hr'
    obtain ⟨hn, hr'⟩ := hr'
    obtain ⟨t, hr', hargs⟩ := argsK_ok hr'
    obtain ⟨e, t1, h1, n1, ds1, hr1, hok⟩ := execF_ok hreg 1000000 fn.ntmps c t h n [] _ r hr'
    have he : (e = .normal ∨ e = .ret) ∧ leaveF E fn t1 ds1 h1 n1 k = some r := by
      cases e with
      | normal => exact ⟨.inl rfl, hr1⟩
      | ret => exact ⟨.inr rfl, hr1⟩
      | exit j => cases hr1
    obtain ⟨he, hr2⟩ := he
    obtain ⟨v, h2, n2, hr3, hleave⟩ := leaveF_ok ds1 h1 n1 hr2
    refine ⟨v, h2, n2, hr3, fun ρ w us hsig hrel hv => .inl ⟨run_enter hf hb hn us w, calls_of_wp_defers hf hb ?_⟩⟩
    refine hok ρ _ w hsig hrel (hargs ρ us hv) _ ?_
    rintro a' w' ⟨ρ1, p1, p2⟩
    have hl := hleave ρ1 w' a'.tmps a'.defers (hsig.le p1.le) p1.rel p2.tmps p2.defers
    have mono : ∀ (es : List Deferred) (u : FrameMode) (w : World) (R R' : Ending → World → Prop), (∀ e w, R e w → R' e w) → Leaves E.P fn a'.tmps R es u w → Leaves E.P fn a'.tmps R' es u w := by
      intro es
      induction es with
      | nil =>
        intro u w R R' hR hl
        cases u with
        | run => exact hl.elim
        | returning => obtain ⟨v, h1, h2⟩ := hl; exact ⟨v, h1, hR _ _ h2⟩
        | panicking ch => exact hR _ _ hl
      | cons d es ih =>
        intro u w R R' hR hl
        obtain ⟨h1, fv, cap, f, args, h2, h3, h4⟩ := hl
        refine ⟨h1, fv, cap, f, args, h2, h3, h4.mono fun e u' w' he => ?_⟩
        cases e with
        | returned x => exact ih _ _ _ _ hR he
        | panicked ch => exact ih _ _ _ _ hR he
        | outgrown => exact hR _ _ he
    have hfin := mono _ _ _ _ (fun e w2 => match e with | .returned u => ∃ ρ', Post ρ h.get n w ρ' h2.get n2 w2 ∧ VR ρ' v u | _ => False) (fun e w2 he => by
      cases e with
      | returned y => obtain ⟨ρ2, q1, q2⟩ := he; exact ⟨ρ2, Post.trans hrel p1 q1, q2⟩
      | panicked ch => exact he.elim
      | outgrown => exact he.elim) hl
    rcases he with rfl | rfl
    · exact hfin
    · exact hfin

/-- the reckoner says what is so -/
theorem runF_ok (hE : EnvOK E) (hreg : ∀ call : CallF β, CallSound E call → RegSound β E call) : ∀ d : Nat, CallSound (β := β) E (runF E d)
  | 0 => fun f xs h n k r hr => by cases hr
  | d + 1 => stepF_ok hE (hreg _ (runF_ok hE hreg d))
end
end Go.Proofs.YtgedmmmgkfehjaaGreatDoor
