/- Slices, operators, conversions. -/
import Derived.Test.YtgedmmmgkfehjaaGreatDoorZc3
namespace Go.Proofs.YtgedmmmgkfehjaaGreatDoor

section
variable {β : Type} {E : Env} {t : Tm} {h : Hp} {k : AV → R β} {r : β}

theorem extract_toList (s : ByteArray) (a b : Nat) : (s.extract a b).data.toList = (s.data.toList.drop a).take (b - a) := by
  rw [ByteArray.data_extract, Array.toList_extract]

theorem slice_place (m p o z : Nat) : (if m = p then o else o + p * z) = ifB (Nat.beq m p) o (Nat.add o (Nat.mul p z)) := by
  rw [ifB_eq]
  by_cases hmp : m = p
  · have : Nat.beq m p = true := by rw [Nat.beq_eq]; exact hmp
    rw [if_pos hmp, if_pos this]
  · have : ¬ Nat.beq m p = true := by rw [Nat.beq_eq]; exact hmp
    rw [if_neg hmp, if_neg this]
    rfl
theorem slice_addr (b o m p z : Nat) : (if m = p then (some (⟨b, o, none⟩ : Addr)) else (some (⟨b, o, none⟩ : Addr)).map (·.add (p * z))) = some ⟨b, ifB (Nat.beq m p) o (Nat.add o (Nat.mul p z)), none⟩ := by
  rw [← slice_place]
  split
  · rfl
  · simp [Addr.add_mid]
theorem run_slice {P : Program} {a : Act} (w : World) (ty e : TypeId) (b o n c z p q m : Nat) (lo hi mx : Option Operand) (h2 : P.underlying ty = some (.slice e)) (h5 : (sizeOf e).run P w = .ok z w)
    (hb : (Instr.sliceBounds true n c (lo.map a.eval) (hi.map a.eval) (mx.map a.eval)).run P w = .ok (p, q, m) w) :
    (Instr.sliceAt ty (.slice (some ⟨b, o, none⟩) n c) (lo.map a.eval) (hi.map a.eval) (mx.map a.eval)).run P w = .ok (.slice (some ⟨b, ifB (Nat.beq m p) o (Nat.add o (Nat.mul p z)), none⟩) (q - p) (m - p)) w := by
  simp only [Instr.sliceAt, Instr.slice, Sem.run_bind, Result.andThen_ok, run_underlying h2, hb, h5, Sem.run_pure, slice_addr]

theorem sliceF_ok {ty : TypeId} {x : Operand} {lo hi mx : Option Operand} (hr : sliceF E ty x lo hi mx t h k = some r) : ∃ v, k v = some r ∧ PureOK E (.slice ty x lo hi mx) t h v := by
  unfold sliceF at hr
  rw [evK_eq] at hr
  have bd : ∀ {ρ : Den} {a : Act} {y : Option Operand} {d m : Nat}, (∀ z, z ∈ (Op.slice ty x lo hi mx).operands → VR ρ (ev t z) (a.eval z)) → (y = lo ∨ y = hi ∨ y = mx) →
      Bd (fun z m => ∃ q, ev t z = .int q (.ofNat m)) y d m → Bd (fun z m => ∃ q, a.eval z = .int q m) y d m := by
    intro ρ a y d m hx hy hm
    rcases hm with hm | ⟨z, rfl, q, hq⟩
    · exact .inl hm
    · refine .inr ⟨z, rfl, q, bound_eval (hx z ?_) hq⟩
      rcases hy with hy | hy | hy <;> simp [Op.operands, ← hy]
  cases hv : ev t x <;> rw [hv] at hr <;> simp only [reduceCtorEq] at hr
  · -- a string
    rename_i tr o n
    simp only [gd_some, boundK_some, forceN_eq] at hr
    obtain ⟨hs, hmx, p, hp, q, hq, hpq, hqn, hr⟩ := hr
    have hmx' : mx = none := by cases mx <;> simp_all
    subst hmx'
    refine ⟨_, hr, fun ρ w a n' o' ho hsig hrel hx => ?_⟩
    have h1 := hx x (by simp [Op.operands])
    rw [hv] at h1
    generalize hu : a.eval x = u at h1
    cases h1
    rename_i s hget hn
    have h2 := stringT_some hs
    have hsz : s.size = n := by rw [← hn, Array.length_toList]; rfl
    have hpq' := Nat.le_of_ble_eq_true hpq
    have hqn' := Nat.le_of_ble_eq_true hqn
    have hb := run_bounds (P := E.P) (a := a) w false n n lo hi none p q n (bd hx (.inl rfl) hp) (bd hx (.inr (.inl rfl)) hq) (.inl ⟨rfl, rfl⟩) hpq' hqn' (Nat.le_refl _) (by simp)
    refine ⟨.string (s.extract p q), ?_, .str tr _ _ _ ?_ ?_⟩
    · simp only [Option.map_none] at hb
      simp [execOp, ho, hu, Instr.sliceAt, Instr.slice, run_underlying h2, hsz, hb]
    · rw [extract_toList]
      simp
      have : s.data.size = n := hsz
      show _ = q - p
      omega
    · intro i y hy
      rw [extract_toList] at hy
      have hi : i < q - p := by
        have := (List.getElem?_eq_some_iff.1 hy).1
        simp at this
        omega
      rw [List.getElem?_take, if_pos hi, List.getElem?_drop] at hy
      have := hget (p + i) y hy
      rw [← this]
      show tr.get (o + p + i) = _
      congr 1
      omega
  · -- a slice
    rename_i l o n c
    cases c with
    | some c =>
      simp only [ob_some, gd_some, boundK_some, forceN_eq] at hr
      obtain ⟨h4, ⟨e, z⟩, hs, m, hm, p, hp, q, hq, hpq, hqm, hmc, hr⟩ := hr
      obtain ⟨h2, h3⟩ := sliceE_some hs
      refine ⟨_, hr, fun ρ w a n' o' ho hsig hrel hx => ?_⟩
      have h1 := hx x (by simp [Op.operands])
      rw [hv] at h1
      generalize hu : a.eval x = u at h1
      cases h1
      rename_i b hl hnc
      have hqm' := Nat.le_of_ble_eq_true hqm
      have hb := run_bounds (P := E.P) (a := a) w true n c lo hi mx p q m (bd hx (.inl rfl) hp) (bd hx (.inr (.inl rfl)) hq) (bd hx (.inr (.inr rfl)) hm) (Nat.le_of_ble_eq_true hpq) (Nat.le_of_ble_eq_true hqm) (Nat.le_of_ble_eq_true hmc) h4
      exact ⟨_, by simp only [execOp, ho, hu, Sem.run_bind, run_slice w ty e b o n c z p q m lo hi mx h2 (size_some h3 w).1 hb, Result.andThen_ok, Sem.run_pure]; rfl, .sl l b _ _ _ hl (Nat.sub_le_sub_right hqm' p)⟩
    | none =>
      simp only [ob_some, gd_some, boundK_some, forceN_eq] at hr
      obtain ⟨h4, ⟨e, z⟩, hs, p, hp, q, hq, hpq, hqn, hr⟩ := hr
      obtain ⟨h2, h3⟩ := sliceE_some hs
      cases mx with
      | none =>
        simp only [gd_some] at hr
        obtain ⟨hp0, hr⟩ := hr
        have hp0' : p = 0 := by rw [Nat.beq_eq] at hp0; exact hp0
        subst hp0'
        refine ⟨_, hr, fun ρ w a n' o' ho hsig hrel hx => ?_⟩
        have h1 := hx x (by simp [Op.operands])
        rw [hv] at h1
        generalize hu : a.eval x = u at h1
        cases h1
        rename_i b hl hcap
        have hqn' := Nat.le_of_ble_eq_true hqn
        have hb := run_bounds (P := E.P) (a := a) w true n (ρ.cap l) lo hi none 0 q (ρ.cap l) (bd hx (.inl rfl) hp) (bd hx (.inr (.inl rfl)) hq) (.inl ⟨rfl, rfl⟩) (Nat.zero_le _) (by omega) (Nat.le_refl _) h4
        have hrun := run_slice (a := a) w ty e b 0 n (ρ.cap l) z 0 q (ρ.cap l) lo hi none h2 (size_some h3 w).1 hb
        have hz : ifB (Nat.beq (ρ.cap l) 0) 0 (Nat.add 0 (Nat.mul 0 z)) = 0 := by
          rw [ifB_eq]
          have e1 : Nat.mul 0 z = 0 := Nat.zero_mul z
          rw [e1]
          split <;> rfl
        rw [hz] at hrun
        refine ⟨.slice (some ⟨b, 0, none⟩) q (ρ.cap l), ?_, .slu l b q hl (by omega)⟩
        simp only [Option.map_none, Nat.sub_zero] at hrun
        simp only [execOp, ho, hu, Option.map_none, Sem.run_bind, hrun, Result.andThen_ok, Sem.run_pure]
      | some mx =>
        simp only [evK_eq, asNat_some, gd_some] at hr
        obtain ⟨qm, m, hm, hqm, hmn, hr⟩ := hr
        refine ⟨_, hr, fun ρ w a n' o' ho hsig hrel hx => ?_⟩
        have h1 := hx x (by simp [Op.operands])
        rw [hv] at h1
        generalize hu : a.eval x = u at h1
        cases h1
        rename_i b hl hcap
        have hmn' := Nat.le_of_ble_eq_true hmn
        have hqm' := Nat.le_of_ble_eq_true hqm
        have hb := run_bounds (P := E.P) (a := a) w true n (ρ.cap l) lo hi (some mx) p q m (bd hx (.inl rfl) hp) (bd hx (.inr (.inl rfl)) hq) (bd hx (.inr (.inr rfl)) (.inr ⟨mx, rfl, qm, hm⟩)) (Nat.le_of_ble_eq_true hpq) (Nat.le_of_ble_eq_true hqm) (by omega) h4
        exact ⟨_, by simp only [execOp, ho, hu, Sem.run_bind, run_slice w ty e b 0 n (ρ.cap l) z p q m lo hi (some mx) h2 (size_some h3 w).1 hb, Result.andThen_ok, Sem.run_pure]; rfl, .sl l b _ _ _ hl (Nat.sub_le_sub_right hqm' p)⟩
end
end Go.Proofs.YtgedmmmgkfehjaaGreatDoor
