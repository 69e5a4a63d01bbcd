/- The reckoner that looks calls up says what is so, and so does an entry's own run. An entry whose run is told of the least bound and of all above it is told of all; what is left in the heap may be cut down to what the entry says. -/
import Derived.Test.YtgedmmmgkfehjaaGreatDoorZo2
import Derived.Test.YtgedmmmgkfehjaaGreatDoorZm
namespace Go.Proofs.YtgedmmmgkfehjaaGreatDoor

def EntOK (E : Env) (e : Ent) : Prop :=
  ∃ hp h' : Hp, (∀ l, hp.get l = inAll e.pre l) ∧ CallOK E e.f e.xs hp e.n0 e.v h' e.n1 ∧ (∀ l o, inAll e.post l = some o → h'.get l = some o) ∧
    (∀ l o, inAll e.pre l = some o → inAll e.post l = none → h'.get l = some o) ∧ clA e.n0 e.post e.v = true ∧ clP e.n0 e.post e.post = true

theorem cut_same {ρ : Den} {n : Nat} {post : List (Nat × AO)} (hd : ∀ l b, ρ.at_ l = some b → l < n) : ρ.cut n post = ρ := by
  have e : (fun l => if l < n ∨ (inAll post l).isSome = true then ρ.at_ l else none) = ρ.at_ := by
    funext l
    split
    · rfl
    · rename_i hl
      cases hq : ρ.at_ l with
      | none => rfl
      | some b => exact absurd (.inl (hd l b hq)) hl
  unfold Den.cut
  rw [e]

section
variable {β : Type} {E : Env}
theorem known_sound {call : CallF β} (hc : CallSound E call) : ∀ (tab : List Ent), (∀ e ∈ tab, EntOK E e) → CallSound E (knownF tab call)
  | [], _, f, xs, h, n, k, r, hr => hc f xs h n k r hr
  | e :: tab, ht, f, xs, h, n, k, r, hr => by
    have hr' : ifB (Nat.beq e.f f) (ifB (Nat.beq e.n0 n) (ifB (eqLs eqA e.xs xs) (gd (lies e.pre h) <| putAll e.post h fun h => k e.v h e.n1) (knownF tab call f xs h n k)) (knownF tab call f xs h n k)) (knownF tab call f xs h n k) = some r := hr
    have rest : knownF tab call f xs h n k = some r → ∃ v h' n', k v h' n' = some r ∧ CallOK E f xs h n v h' n' := known_sound hc tab (fun e he => ht e (by simp [he])) f xs h n k r
    rw [ifB_eq] at hr'
    split at hr'
    · rename_i hf
      rw [ifB_eq] at hr'
      split at hr'
      · rename_i hn
        rw [ifB_eq] at hr'
        split at hr'
        · rename_i hx
          rw [Nat.beq_eq] at hf hn
          simp only [gd_some] at hr'
          obtain ⟨hl, hr'⟩ := hr'
          have hx' := eqLs_eq eqA_eq _ _ hx
          obtain ⟨h2, hr', h2e⟩ := putAll_ok _ _ hr'
          subst hf hn hx'
          obtain ⟨hp, h', a1, a2, a3, a4, a5, a6⟩ := ht e (by simp)
          have hs : ∀ l o, hp.get l = some o → h.get l = some o := fun l o ho => lies_ok _ hl (l, o) (inAll_mem _ (by rw [← a1]; exact ho))
          refine ⟨e.v, h2, e.n1, hr', fun ρ w us hsig hrel hv => ?_⟩
          rcases a2 ρ w us hsig (hrel.part hs) hv with ⟨g1, g2⟩ | ⟨u, g1, g2, g3⟩
          · refine .inl ⟨g1, g2.mono fun en w' he => ?_⟩
            cases en with
            | returned u =>
              obtain ⟨ρ', p, q⟩ := he
              exact ⟨ρ'.cut e.n0 e.post, Post.whole hrel p hs h2e a3 (fun l o ho => a4 l o (by rw [← a1]; exact ho)) a6, clA_vr a5 q⟩
            | panicked ch => exact he.elim
            | outgrown => exact he.elim
          · have p := Post.whole hrel g2 hs h2e a3 (fun l o ho => a4 l o (by rw [← a1]; exact ho)) a6
            rw [cut_same fun l b hb => (hrel.dom l b hb).2.2] at p
            exact .inr ⟨u, g1, p, g3⟩
        · exact rest hr'
      · exact rest hr'
    · exact rest hr'

theorem runK_ok (hE : EnvOK E) {tab : List Ent} (ht : ∀ e ∈ tab, EntOK E e) : ∀ d : Nat, CallSound (β := β) E (runK E tab d)
  | 0 => fun f xs h n k r hr => by cases hr
  | d + 1 => known_sound (stepF_ok hE (reg_sound hE.mixed (runK_ok hE ht d))) tab ht
end

theorem entRun_ok {E : Env} (hE : EnvOK E) {tab : List Ent} (ht : ∀ e ∈ tab, EntOK E e) {d : Nat} {e : Ent} (hr : entRun E tab d e = some ()) : EntOK E e := by
  unfold entRun at hr
  obtain ⟨hp, hr, a1⟩ := putAll_ok _ _ hr
  obtain ⟨v, h', n', hr, a2⟩ := runK_ok hE ht d _ _ _ _ _ _ hr
  simp only [gd_some, Nat.beq_eq] at hr
  obtain ⟨b1, b2, b3, b4, b5, b6, _⟩ := hr
  have b1' := eqA_eq _ _ b1
  subst b1' b2
  refine ⟨hp, h', fun l => ?_, a2, fun l o ho => lies_ok _ b3 (l, o) (inAll_mem _ ho), fun l o ho hn => kept_ok _ b4 (l, o) (inAll_mem _ ho) hn, b5, b6⟩
  rw [a1]
  cases inAll e.pre l <;> rfl

/-- narrower bounds, the same call -/
theorem EntOK.within {lo hi lo' hi' : Int} (h0 : 0 ≤ lo) (h1 : lo ≤ lo') (h2 : hi' ≤ hi) (h3 : hi ≤ 200) {e : Ent} (h : EntOK (EV lo hi) e) : EntOK (EV lo' hi') e := by
  obtain ⟨hp, h', a1, a2, a3⟩ := h
  refine ⟨hp, h', a1, fun ρ w us hsig hrel hv => a2 ρ w us ⟨h0, Int.le_trans h1 hsig.lo, Int.le_trans hsig.hi h2, h3⟩ hrel hv, a3⟩
end Go.Proofs.YtgedmmmgkfehjaaGreatDoor

namespace Go.Proofs.YtgedmmmgkfehjaaGreatDoor

theorem Post.less {ρ ρ' : Den} {h h' hc : Hf} {n n' : Nat} {w w' : World} (p : Post ρ h n w ρ' h' n' w') (hs : Sub hc h') (hk : ∀ l, h' l = h l → hc l = h l) : Post ρ h n w ρ' hc n' w' := by
  refine ⟨p.le, p.rel.sub hs, p.mono, fun l hl hn => ?_, fun l hl hn => ?_, p.fresh, p.frame, p.size, p.os, p.tape, p.output⟩
  · obtain ⟨h1, h2⟩ := p.pend l hl hn
    exact ⟨h1, hk l h2⟩
  · have h1 := p.old l hl hn
    cases hq : hc l with
    | none => rfl
    | some o => rw [hs l o hq] at h1; cases h1

theorem CallOK.less {E : Env} {f : FuncId} {xs : List AV} {h h' hc : Hp} {n n' : Nat} {v : AV} (c : CallOK E f xs h n v h' n') (hs : Sub hc.get h'.get) (hk : ∀ l, h'.get l = h.get l → hc.get l = h.get l) : CallOK E f xs h n v hc n' := by
  intro ρ w us hsig hrel hv
  rcases c ρ w us hsig hrel hv with ⟨g1, g2⟩ | ⟨u, g1, g2, g3⟩
  · refine .inl ⟨g1, g2.mono fun en w' he => ?_⟩
    cases en with
    | returned u =>
      obtain ⟨ρ', p, q⟩ := he
      exact ⟨ρ', p.less hs hk, q⟩
    | panicked ch => exact he.elim
    | outgrown => exact he.elim
  · exact .inr ⟨u, g1, g2.less hs hk, g3⟩

theorem EntOK.canon {E : Env} {e : Ent} (h : EntOK E e) {hp hc : Hp} (h1 : ∀ l, hp.get l = inAll e.pre l) (h2 : ∀ l, hc.get l = match inAll e.post l with | some o => some o | none => inAll e.pre l) :
    CallOK E e.f e.xs hp e.n0 e.v hc e.n1 ∧ clA e.n0 e.post e.v = true ∧ clP e.n0 e.post e.post = true := by
  obtain ⟨hp', h', a1, a2, a3, a4, a5⟩ := h
  refine ⟨?_, a5⟩
  have e1 : hp'.get = hp.get := by funext l; rw [a1, h1]
  have hs : Sub hc.get h'.get := by
    intro l o ho
    rw [h2] at ho
    cases hq : inAll e.post l with
    | some o' => rw [hq] at ho; cases ho; exact a3 l _ hq
    | none => rw [hq] at ho; exact a4 l o ho hq
  have c := a2.less hs (fun l hl => by
    rw [a1] at hl ⊢
    rw [h2]
    cases hq : inAll e.post l with
    | some o' => rw [a3 l o' hq] at hl; exact hl
    | none => rfl)
  unfold CallOK at c ⊢
  rw [e1] at c
  exact c

/-- zero, and one and more -/
theorem EntOK.join {e : Ent} (hput : putAll e.pre .nil (fun h => putAll e.post h fun _ => some ()) = some ()) (h0 : EntOK (EV 0 0) e) (h1 : EntOK (EV 1 200) e) : EntOK (EV 0 200) e := by
  obtain ⟨hp, hput, a1⟩ := putAll_ok _ _ hput
  obtain ⟨hc, _, a2⟩ := putAll_ok _ _ hput
  have a1' : ∀ l, hp.get l = inAll e.pre l := fun l => by
    rw [a1]
    cases inAll e.pre l <;> rfl
  have a2' : ∀ l, hc.get l = match inAll e.post l with | some o => some o | none => inAll e.pre l := fun l => by
    rw [a2]
    cases inAll e.post l with
    | none => exact a1' l
    | some o => rfl
  obtain ⟨c0, b⟩ := h0.canon a1' a2'
  obtain ⟨c1, _⟩ := h1.canon a1' a2'
  refine ⟨hp, hc, a1', fun ρ w us hsig hrel hv => ?_, fun l o ho => by rw [a2', ho], fun l o ho hn => by rw [a2', hn]; exact ho, b⟩
  by_cases hz : ρ.sig = 0
  · exact c0 ρ w us ⟨by decide, by show (0 : Int) ≤ ρ.sig; omega, by show ρ.sig ≤ (0 : Int); omega, by decide⟩ hrel hv
  · have := hsig.lo
    have := hsig.hi
    exact c1 ρ w us ⟨by decide, by show (1 : Int) ≤ ρ.sig; have h5 : (0 : Int) ≤ ρ.sig := hsig.lo; omega, hsig.hi, by decide⟩ hrel hv
end Go.Proofs.YtgedmmmgkfehjaaGreatDoor
