/- Conversions, literals, lookups; what the reckoner says of whatever operation turns nothing. -/
import Derived.Test.YtgedmmmgkfehjaaGreatDoorZc5
namespace Go.Proofs.YtgedmmmgkfehjaaGreatDoor

section
variable {β : Type} {E : Env} {t : Tm} {h : Hp} {k : AV → R β} {r : β}

theorem depth_succ (P : Program) : ∃ d, P.depth = d + 1 := ⟨2 * (P.types.size + Made.depth) + 1, rfl⟩
theorem sameLayout_refl (P : Program) (t : TypeId) : sameLayout P P.depth t t = true := by
  obtain ⟨d, hd⟩ := depth_succ P
  rw [hd]
  simp [sameLayout]
theorem variablesAt_whole {w : World} {b : Nat} {cs : Array Value} {ty : TypeId} {fz : Nat × Nat} {s : Nat} (hb : w.heap[b]? = some (.cells cs ty fz)) (hs : E.size ty = some s) (h1 : 1 ≤ s) (h2 : cs.size = s) :
    (variablesAt ⟨b, 0, none⟩ ty 1).run E.P w = .ok true w := by
  have h3 : E.P.cellsOf ty = s := by
    unfold Env.size at hs
    simp [Program.cellsOf, hs]
  obtain ⟨d, hd⟩ := depth_succ E.P
  have h4 : rowAt E.P (sameLayout E.P E.P.depth · ty) E.P.depth ty (cs.size / E.P.cellsOf ty) 0 1 = true := by
    have e := sameLayout_refl E.P ty
    rw [hd] at e ⊢
    have h5 : s / s = 1 := Nat.div_self h1
    have h6 : s ≠ 0 := by omega
    simp [rowAt, h3, h2, e, h5, h6]
  have h7 : liesAt E.P E.P.depth ty (cs.size / E.P.cellsOf ty) 0 ty 1 = true := by
    rw [hd] at h4 ⊢
    simp only [liesAt]
    rw [hd] 
    simp [h4]
  simp [variablesAt, World.shape?, hb, h7]

theorem wholeP_some {ρ : Den} {l o n : Nat} {ty : TypeId} {v : AV} {b : Nat} {w : World} (hs : wholeP E h l o ty = some v) (hrel : Rel ρ h.get n w) (hl : ρ.at_ l = some b) :
    v = .ptr l o ∧ o = 0 ∧ ∃ cs s, w.heap[b]? = some (.cells cs ty (0, 0)) ∧ E.size ty = some s ∧ 1 ≤ s ∧ cs.size = s := by
  unfold wholeP at hs
  simp only [ob_some] at hs
  obtain ⟨x, hx, hs⟩ := hs
  cases x <;> simp only [gd_some, ob_some, reduceCtorEq, Option.some.injEq] at hs
  rename_i c m e
  obtain ⟨h0, h1, h2, s, h3, h4, rfl⟩ := hs
  rw [Nat.beq_eq] at h0 h2 h4
  subst h0
  subst h2
  obtain ⟨z, hz, cs, rfl, hcs, _⟩ := hrel.obj l _ b hx hl
  have := Nat.le_of_ble_eq_true h1
  exact ⟨rfl, rfl, cs, s, hz, h3, by omega, by omega⟩

theorem convF_ok {src dst : TypeId} {x : Operand} (hr : convF E src dst x t h k = some r) : ∃ v, k v = some r ∧ PureOK E (.convert src dst x) t h v := by
  unfold convF at hr
  simp only [evK_eq, ob_some, forceA_eq] at hr
  obtain ⟨v, hv, hr⟩ := hr
  refine ⟨v, hr, fun ρ w a n o ho hsig hrel hx => ?_⟩
  have hx1 := hx x (by simp [Op.operands])
  suffices hc : ∃ u, (convert src dst (a.eval x)).run E.P w = .ok u w ∧ VR ρ v u by
    obtain ⟨u, h1, h2⟩ := hc
    exact ⟨u, by simp [execOp, ho, h1], h2⟩
  unfold convV at hv
  simp only [ob_some] at hv
  obtain ⟨s, hs, d, hd, hv⟩ := hv
  have hs' : E.P.underlying src = some s := hs
  have hd' : E.P.underlying dst = some d := hd
  generalize hq : ev t x = q at hx1 hv
  generalize hu : a.eval x = u at hx1
  split at hv
  · rename_i k1 k2 n1
    obtain ⟨rfl, hw⟩ := intR_some hv
    cases hx1
    refine ⟨_, ?_, .int _ _⟩
    simp [convert, run_underlying hs', run_underlying hd', Conv.intToInt, hw]
  · cases hv
    cases hx1
    refine ⟨_, ?_, .float _ _⟩
    simp [convert, run_underlying hs', run_underlying hd', Conv.intToFloat]
  · rename_i l o1
    cases s <;> simp only [reduceCtorEq] at hv
    rename_i ty
    cases hx1
    rename_i b hl
    obtain ⟨rfl, rfl, cs, m, hb, hm, h1, h2⟩ := wholeP_some hv hrel hl
    refine ⟨.pointer (some ⟨b, 0, none⟩), ?_, .ptr l b 0 hl⟩
    have h3 := (size_some hm w).1
    have h4 : ¬ (m = 0) := by omega
    have h5 : ¬ (cs.size = 0) := by omega
    simp [convert, run_underlying hs', run_underlying hd', Conv.unsafePointer, Conv.seenAt, viewAt, World.shape?, hb, cellsIn, h3, h4, h5]
  · rename_i ty l o1
    cases s <;> simp only [reduceCtorEq] at hv
    cases hx1
    rename_i b hl
    obtain ⟨rfl, rfl, cs, m, hb, hm, h1, h2⟩ := wholeP_some hv hrel hl
    refine ⟨.pointer (some ⟨b, 0, none⟩), ?_, .ptr l b 0 hl⟩
    have h3 := (size_some hm w).1
    have h4 := variablesAt_whole (E := E) hb hm h1 h2
    simp [convert, run_underlying hs', run_underlying hd', Conv.unsafePointer, Conv.seenAt, viewAt, World.shape?, hb, h3, h4]
  · cases hv
end
end Go.Proofs.YtgedmmmgkfehjaaGreatDoor
