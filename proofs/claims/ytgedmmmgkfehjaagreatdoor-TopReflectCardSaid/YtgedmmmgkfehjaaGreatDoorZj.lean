/- Control. What is said of a region whose order is drawn is taken as given here. -/
import Derived.Test.YtgedmmmgkfehjaaGreatDoorZg
namespace Go.Proofs.YtgedmmmgkfehjaaGreatDoor

def Ex.to (e : Ex) : Exit :=
  match e with
  | .normal => .normal
  | .exit id => .exit id
  | .ret => .ret

/-- what is said of regions -/
def RegSound (β : Type) (E : Env) (call : CallF β) : Prop :=
  ∀ (m : Nat) (ops : Array Oper) (d : Bool) (t : Tm) (h : Hp) (n : Nat) (ds : Ds) (k : Tm → Hp → Nat → Ds → R β) (r : β), regF E call m ops d t h n ds k = some r →
    ∃ t' h' n' ds', k t' h' n' ds' = some r ∧ ∀ (ρ : Den) (a : Act) (w : World), SigOK E ρ → Rel ρ h.get n w → FR ρ m t ds a → ∀ (id : Nat) (Q : Exit → Act → World → Prop),
      (∀ a' w', Nxt ρ h n w m t' h' n' ds' a' w' → Q .normal a' w') → (Code.region id ops d).wp E.P Q a w

/-- behind a loop's head -/
def LoopFrom (P : Program) (c : Code) (Q : Exit → Act → World → Prop) (a : Act) (w : World) : Prop :=
  ∀ (b : Frame) (k : List Item) (cs : List Frame), ∃ e a' w', Q e a' w' ∧ Arrives P (lone (b.at a (.code c :: .inLoop c :: k)) cs w) b k cs e a' w'
theorem loopFrom_step {P : Program} {c : Code} {Q : Exit → Act → World → Prop} {a : Act} {w : World} (h : c.wp P (Exit.then (LoopFrom P c Q) Q) a w) : LoopFrom P c Q a w := by
  intro b k cs
  obtain ⟨e, a₁, w₁, hq, harr⟩ := h b (.inLoop c :: k) cs
  cases e with
  | normal =>
    obtain ⟨e₂, a₂, w₂, hq₂, harr₂⟩ := hq b k cs
    exact ⟨e₂, a₂, w₂, hq₂, .of_steps (Steps.trans harr (.one step_inLoop)) harr₂⟩
  | exit id => exact ⟨_, a₁, w₁, hq, .pass (x := .inLoop c) rfl (fun _ _ => .inl (by simp)) harr⟩
  | goto l => exact ⟨_, a₁, w₁, hq, .pass (x := .inLoop c) rfl (fun _ _ => .inl (by simp)) harr⟩
  | ret => exact ⟨_, a₁, w₁, hq, .pass (x := .inLoop c) rfl (fun _ _ => .inl (by simp)) harr⟩
  | panic ch => exact ⟨_, a₁, w₁, hq, .pass (x := .inLoop c) rfl (fun _ _ => .inl (by simp)) harr⟩
  | outgrown => exact ⟨_, a₁, w₁, hq, .pass (x := .inLoop c) rfl (fun _ _ => .inl (by simp)) harr⟩
theorem wp_loop_from {P : Program} {c : Code} {Q : Exit → Act → World → Prop} {a : Act} {w : World} (h : LoopFrom P c Q a w) : (Code.loop c).wp P Q a w := by
  intro b k cs
  obtain ⟨e, a', w', hq, harr⟩ := h b k cs
  exact ⟨e, a', w', hq, .of_steps (.one step_loop) harr⟩

section
variable {β : Type} {E : Env} {call : CallF β}

/-- what is said of code -/
def CodeOK (E : Env) (c : Code) (m : Nat) (t : Tm) (h : Hp) (n : Nat) (ds : Ds) (e : Ex) (t' : Tm) (h' : Hp) (n' : Nat) (ds' : Ds) : Prop :=
  ∀ (ρ : Den) (a : Act) (w : World), SigOK E ρ → Rel ρ h.get n w → FR ρ m t ds a → ∀ Q : Exit → Act → World → Prop, (∀ a' w', Nxt ρ h n w m t' h' n' ds' a' w' → Q e.to a' w') → c.wp E.P Q a w

theorem loopN_ok {c : Code} {m : Nat} {f : Cf β} (hf : ∀ (t : Tm) (h : Hp) (n : Nat) (ds : Ds) (k : Kx β) (r : β), f t h n ds k = some r → ∃ e t' h' n' ds', k e t' h' n' ds' = some r ∧ CodeOK E c m t h n ds e t' h' n' ds') :
    ∀ (fuel : Nat) (t : Tm) (h : Hp) (n : Nat) (ds : Ds) (k : Kx β) (r : β), loopN f fuel t h n ds k = some r → ∃ e t' h' n' ds', k e t' h' n' ds' = some r ∧
      ∀ (ρ : Den) (a : Act) (w : World), SigOK E ρ → Rel ρ h.get n w → FR ρ m t ds a → ∀ Q : Exit → Act → World → Prop, (∀ a' w', Nxt ρ h n w m t' h' n' ds' a' w' → Q e.to a' w') → LoopFrom E.P c Q a w
  | 0, t, h, n, ds, k, r, hr => by cases hr
  | fuel + 1, t, h, n, ds, k, r, hr => by
    have hr' : (f t h n ds fun e t h n ds => Ex.casesOn e (loopN f fuel t h n ds k) (fun j => k (.exit j) t h n ds) (k .ret t h n ds)) = some r := hr
    obtain ⟨e, t1, h1, n1, ds1, hr1, hok⟩ := hf t h n ds _ r hr'
    cases e with
    | normal =>
      obtain ⟨e2, t2, h2, n2, ds2, hr2, hok2⟩ := loopN_ok hf fuel t1 h1 n1 ds1 k r hr1
      refine ⟨e2, t2, h2, n2, ds2, hr2, fun ρ a w hsig hrel hfr Q hQ => loopFrom_step (hok ρ a w hsig hrel hfr _ ?_)⟩
      rintro a1 w1 ⟨ρ1, p1, p2⟩
      exact hok2 ρ1 a1 w1 (hsig.le p1.le) p1.rel p2 Q fun a' w' hn => hQ a' w' (hn.trans hrel p1)
    | exit j => exact ⟨.exit j, t1, h1, n1, ds1, hr1, fun ρ a w hsig hrel hfr Q hQ => loopFrom_step (hok ρ a w hsig hrel hfr _ fun a' w' hn => hQ a' w' hn)⟩
    | ret => exact ⟨.ret, t1, h1, n1, ds1, hr1, fun ρ a w hsig hrel hfr Q hQ => loopFrom_step (hok ρ a w hsig hrel hfr _ fun a' w' hn => hQ a' w' hn)⟩

theorem execF_ok (hreg : RegSound β E call) (fuel m : Nat) (c : Code) : ∀ (t : Tm) (h : Hp) (n : Nat) (ds : Ds) (k : Kx β) (r : β), execF E call fuel m c t h n ds k = some r →
    ∃ e t' h' n' ds', k e t' h' n' ds' = some r ∧ CodeOK E c m t h n ds e t' h' n' ds' := by
  induction c with
  | skip => exact fun t h n ds k r hr => ⟨.normal, t, h, n, ds, hr, fun ρ a w hsig hrel hf Q hQ => wp_skip (hQ a w ⟨ρ, Post.refl hrel, hf⟩)⟩
  | region id ops d =>
    intro t h n ds k r hr
    obtain ⟨t', h', n', ds', hr', hok⟩ := hreg m ops d t h n ds _ r hr
    exact ⟨.normal, t', h', n', ds', hr', fun ρ a w hsig hrel hf Q hQ => hok ρ a w hsig hrel hf id Q hQ⟩
  | seq x y ihx ihy =>
    intro t h n ds k r hr
    have hr' : (execF E call fuel m x t h n ds fun e t h n ds => Ex.casesOn e (execF E call fuel m y t h n ds k) (fun j => k (.exit j) t h n ds) (k .ret t h n ds)) = some r := hr
    obtain ⟨e, t1, h1, n1, ds1, hr1, hok⟩ := ihx t h n ds _ r hr'
    cases e with
    | normal =>
      obtain ⟨e2, t2, h2, n2, ds2, hr2, hok2⟩ := ihy t1 h1 n1 ds1 k r hr1
      refine ⟨e2, t2, h2, n2, ds2, hr2, fun ρ a w hsig hrel hf Q hQ => wp_seq (hok ρ a w hsig hrel hf _ ?_)⟩
      rintro a1 w1 ⟨ρ1, p1, p2⟩
      exact hok2 ρ1 a1 w1 (hsig.le p1.le) p1.rel p2 Q fun a' w' hn => hQ a' w' (hn.trans hrel p1)
    | exit j => exact ⟨.exit j, t1, h1, n1, ds1, hr1, fun ρ a w hsig hrel hf Q hQ => wp_seq (hok ρ a w hsig hrel hf _ fun a' w' hn => hQ a' w' hn)⟩
    | ret => exact ⟨.ret, t1, h1, n1, ds1, hr1, fun ρ a w hsig hrel hf Q hQ => wp_seq (hok ρ a w hsig hrel hf _ fun a' w' hn => hQ a' w' hn)⟩
  | cond q x y ihx ihy =>
    intro t h n ds k r hr
    have hr' : (evK t q fun v => asBool' v fun b => ifB b (execF E call fuel m x t h n ds k) (execF E call fuel m y t h n ds k)) = some r := hr
    rw [evK_eq, asBool_some] at hr'
    obtain ⟨b, hb, hr'⟩ := hr'
    have hev : ∀ (ρ : Den) (a : Act), FR ρ m t ds a → a.eval q = .bool b := by
      intro ρ a hf
      have := hf.op q
      rw [hb] at this
      generalize a.eval q = u at this
      cases this
      rfl
    cases b with
    | true =>
      obtain ⟨e, t', h', n', ds', hr2, hok⟩ := ihx t h n ds k r hr'
      exact ⟨e, t', h', n', ds', hr2, fun ρ a w hsig hrel hf Q hQ => wp_cond_true (hev ρ a hf) (hok ρ a w hsig hrel hf Q hQ)⟩
    | false =>
      obtain ⟨e, t', h', n', ds', hr2, hok⟩ := ihy t h n ds k r hr'
      exact ⟨e, t', h', n', ds', hr2, fun ρ a w hsig hrel hf Q hQ => wp_cond_false (hev ρ a hf) (hok ρ a w hsig hrel hf Q hQ)⟩
  | block id x ih =>
    intro t h n ds k r hr
    have hr' : (execF E call fuel m x t h n ds fun e t h n ds => Ex.casesOn e (k .normal t h n ds) (fun j => ifB (Nat.beq j id) (k .normal t h n ds) (k (.exit j) t h n ds)) (k .ret t h n ds)) = some r := hr
    obtain ⟨e, t1, h1, n1, ds1, hr1, hok⟩ := ih t h n ds _ r hr'
    cases e with
    | normal => exact ⟨.normal, t1, h1, n1, ds1, hr1, fun ρ a w hsig hrel hf Q hQ => wp_block (hok ρ a w hsig hrel hf _ fun a' w' hn => hQ a' w' hn)⟩
    | exit j =>
      have hr1' : ifB (Nat.beq j id) (k .normal t1 h1 n1 ds1) (k (.exit j) t1 h1 n1 ds1) = some r := hr1
      rw [ifB_eq] at hr1'
      split at hr1'
      · rename_i hj
        rw [Nat.beq_eq] at hj
        subst hj
        exact ⟨.normal, t1, h1, n1, ds1, hr1', fun ρ a w hsig hrel hf Q hQ => wp_block (hok ρ a w hsig hrel hf _ fun a' w' hn => by simpa [Ex.to, Exit.inBlock] using hQ a' w' hn)⟩
      · rename_i hj
        have hj' : j ≠ id := by intro e; subst e; exact hj (Nat.beq_refl j)
        exact ⟨.exit j, t1, h1, n1, ds1, hr1', fun ρ a w hsig hrel hf Q hQ => wp_block (hok ρ a w hsig hrel hf _ fun a' w' hn => by simpa [Ex.to, Exit.inBlock, hj'] using hQ a' w' hn)⟩
    | ret => exact ⟨.ret, t1, h1, n1, ds1, hr1, fun ρ a w hsig hrel hf Q hQ => wp_block (hok ρ a w hsig hrel hf _ fun a' w' hn => hQ a' w' hn)⟩
  | loop x ih =>
    intro t h n ds k r hr
    obtain ⟨e, t', h', n', ds', hr', hok⟩ := loopN_ok ih fuel t h n ds k r hr
    exact ⟨e, t', h', n', ds', hr', fun ρ a w hsig hrel hf Q hQ => wp_loop_from (hok ρ a w hsig hrel hf Q hQ)⟩
  | exit id => exact fun t h n ds k r hr => ⟨.exit id, t, h, n, ds, hr, fun ρ a w hsig hrel hf Q hQ => wp_exit (hQ a w ⟨ρ, Post.refl hrel, hf⟩)⟩
  | ret => exact fun t h n ds k r hr => ⟨.ret, t, h, n, ds, hr, fun ρ a w hsig hrel hf Q hQ => wp_ret (hQ a w ⟨ρ, Post.refl hrel, hf⟩)⟩
  | _ => exact fun t h n ds k r hr => by cases hr
end
end Go.Proofs.YtgedmmmgkfehjaaGreatDoor
