/- More operations that look at their operands, and read. Operators, conversions, bounds, lookups. -/
import Derived.Test.YtgedmmmgkfehjaaGreatDoorZc
namespace Go.Proofs.YtgedmmmgkfehjaaGreatDoor

section
variable {β : Type} {E : Env} {t : Tm} {h : Hp} {k : AV → R β} {r : β}

theorem size_some {ty : TypeId} {m : Nat} (hs : E.size ty = some m) (w : World) : (sizeOf ty).run E.P w = .ok m w ∧ ∃ i, E.P.info? ty = some i ∧ i.size = m := by
  unfold Env.size at hs
  cases hi : E.P.info? ty with
  | none => simp [hi] at hs
  | some i =>
    simp [hi] at hs
    exact ⟨by simp [sizeOf, typeInfo, hi, hs], i, rfl, hs⟩
theorem fieldsT_some {ty : TypeId} {fs : List Field} (hs : E.fieldsT ty = some fs) : E.P.underlying ty = some (.struct fs.toArray) := by
  unfold Env.fieldsT Env.desc at hs
  split at hs
  · rename_i fs' h1
    cases hs
    simpa using h1
  · cases hs
theorem sliceE_some {ty e : TypeId} {m : Nat} (hs : E.sliceE ty = some (e, m)) : E.P.underlying ty = some (.slice e) ∧ E.size e = some m := by
  unfold Env.sliceE Env.desc at hs
  split at hs
  · rename_i e' h1
    cases h2 : E.size e' with
    | none => simp [h2] at hs
    | some n =>
      simp [h2] at hs
      obtain ⟨rfl, rfl⟩ := hs
      exact ⟨h1, h2⟩
  · cases hs

theorem fieldAddrF_ok {ty : TypeId} {x : Operand} {i : Nat} (hr : fieldAddrF E ty x i t h k = some r) : ∃ v, k v = some r ∧ PureOK E (.fieldAddr ty x i) t h v := by
  unfold fieldAddrF at hr
  simp only [evK_eq, asPtr_some, ob_some, forceN_eq] at hr
  obtain ⟨l, o, hv, d, hd, hr⟩ := hr
  refine ⟨_, hr, fun ρ w a n o' ho hsig hrel hx => ?_⟩
  have h1 := hx x (by simp [Op.operands])
  rw [hv] at h1
  generalize hu : a.eval x = u at h1
  cases h1
  rename_i b hb
  refine ⟨.pointer (some ⟨b, o + d, none⟩), ?_, .ptr l b (o + d) hb⟩
  unfold Env.fieldOff at hd
  split at hd
  · rename_i f hf
    split at hd
    · rename_i m hm
      cases hd
      cases hfs : E.fieldsT ty with
      | none => simp [hfs] at hf
      | some fs =>
        simp [hfs] at hf
        have h2 := fieldsT_some hfs
        have h3 := (size_some hm w).1
        simp [execOp, ho, hu, Instr.fieldAt, run_underlying h2, hf, Instr.sureAddr, fieldPlace, h3, Addr.add_mid]
    · cases hd
  · cases hd

theorem partV_run {ty : TypeId} {xs : List AV} {us : Array Value} {o : Nat} {v : AV} {ρ : Den} (hp : partV E ty xs o = some v) (hx : VRs ρ xs us) (w : World) : ∃ u, (part ty us o).run E.P w = .ok u w ∧ VR ρ v u := by
  unfold partV at hp
  simp only [ob_some] at hp
  obtain ⟨s, hs, hp⟩ := hp
  have hsh := shapeT_some hs
  cases s with
  | none =>
    obtain ⟨d, h1, h2⟩ := hsh
    simp only [nthL_eq] at hp
    obtain ⟨u, hu, hv⟩ := hx.get hp
    refine ⟨u, ?_, hv⟩
    have hagg : (isAgg ty).run E.P w = .ok false w := by
      unfold isAgg
      rw [Sem.run_bind, run_underlying h1 w]
      cases d <;> simp_all
    simp [part, hagg, hu]
  | some m =>
    obtain ⟨d, h1, h2, h3⟩ := hsh
    cases hp
    have hagg : (isAgg ty).run E.P w = .ok true w := by
      unfold isAgg
      rw [Sem.run_bind, run_underlying h1 w]
      cases d <;> simp_all
    have hsz := (size_some (E := E) h3 w).1
    refine ⟨.agg (us.extract o (o + m)), by simp [part, hagg, hsz], .agg _ _ ?_ ?_⟩
    · have := hx.1
      simp
      omega
    · intro i x u hxi hui
      have hi : i < m := by
        have := (List.getElem?_eq_some_iff.1 hxi).1
        simp at this
        omega
      refine hx.2 (o + i) x u ?_ ?_
      · simpa [List.getElem?_take, hi, List.getElem?_drop] using hxi
      · rw [Array.getElem?_extract] at hui
        split at hui
        · exact hui
        · cases hui

theorem fieldF_ok {ty : TypeId} {x : Operand} {i : Nat} (hr : fieldF E ty x i t h k = some r) : ∃ v, k v = some r ∧ PureOK E (.field ty x i) t h v := by
  unfold fieldF at hr
  simp only [evK_eq, asAgg_some, ob_some] at hr
  obtain ⟨xs, hv, fs, hfs, f, hf, v, hp, hr⟩ := hr
  refine ⟨_, hr, fun ρ w a n o' ho hsig hrel hx => ?_⟩
  have h1 := hx x (by simp [Op.operands])
  rw [hv] at h1
  generalize hu : a.eval x = u at h1
  cases h1
  rename_i us h3 h4
  obtain ⟨u, hu', hvr⟩ := partV_run hp ⟨h3, h4⟩ w
  refine ⟨u, ?_, hvr⟩
  have h2 := fieldsT_some hfs
  simp [execOp, ho, hu, Instr.field, run_underlying h2, hf, asAgg, hu']

/-- a slice over labels is a slice -/
theorem sl_inv {ρ : Den} {l o n : Nat} {c : Option Nat} {u : Value} (hv : VR ρ (.sl l o n c) u) : ∃ b cap, ρ.at_ l = some b ∧ u = .slice (some ⟨b, o, none⟩) n cap ∧ n ≤ cap ∧ (c = some cap ∨ (c = none ∧ o = 0 ∧ cap = ρ.cap l)) := by
  cases hv with
  | sl l b o n c hb hn => exact ⟨b, c, hb, rfl, hn, .inl rfl⟩
  | slu l b n hb hn => exact ⟨b, _, hb, rfl, hn, .inr ⟨rfl, rfl, rfl⟩⟩

theorem indexAddrF_ok {ty : TypeId} {x i : Operand} (hr : indexAddrF E ty x i t h k = some r) : ∃ v, k v = some r ∧ PureOK E (.indexAddr ty x i) t h v := by
  unfold indexAddrF at hr
  simp only [evK_eq, asSl_some, asNat_some, gd_some, ob_some, forceN_eq] at hr
  obtain ⟨l, o, n, c, hv, q, j, hj, hlt, ⟨e, m⟩, hs, hr⟩ := hr
  refine ⟨_, hr, fun ρ w a n' o' ho hsig hrel hx => ?_⟩
  have h1 := hx x (by simp [Op.operands])
  have h2 := hx i (by simp [Op.operands])
  rw [hv] at h1
  rw [hj] at h2
  generalize hu : a.eval x = u at h1
  generalize hu2 : a.eval i = u2 at h2
  obtain ⟨b, cap, hb, rfl, _⟩ := sl_inv h1
  cases h2
  obtain ⟨h3, h4⟩ := sliceE_some hs
  have hlt' : j < n := by have := Nat.le_of_ble_eq_true hlt; omega
  refine ⟨.pointer (some ⟨b, o + j * m, none⟩), ?_, .ptr l b _ hb⟩
  have h5 := (size_some h4 w).1
  have h6 : (0 : Int) ≤ (Int.ofNat j) ∧ Int.ofNat j < (n : Int) := ⟨Int.natCast_nonneg j, by simpa using hlt'⟩
  simp [execOp, ho, hu, hu2, Instr.indexAt, asIntOf, run_underlying h3, hlt', h5, Addr.add_mid]

theorem stringT_some {ty : TypeId} (hs : stringT E ty = true) : E.P.underlying ty = some .string := by
  unfold stringT Env.desc at hs
  split at hs
  · assumption
  · cases hs
theorem bytes_get (s : ByteArray) (i : Nat) : s[i]? = s.data.toList[i]? := by
  rw [Array.getElem?_toList]
  rfl

theorem indexF_ok {ty : TypeId} {x i : Operand} (hr : indexF E ty x i t h k = some r) : ∃ v, k v = some r ∧ PureOK E (.index ty x i) t h v := by
  unfold indexF at hr
  simp only [evK_eq, asStr_some, asNat_some, gd_some, ob_some] at hr
  obtain ⟨hs, tr, o, n, hv, q, j, hj, hlt, b, hb, hr⟩ := hr
  refine ⟨_, hr, fun ρ w a n' o' ho hsig hrel hx => ?_⟩
  have h1 := hx x (by simp [Op.operands])
  have h2 := hx i (by simp [Op.operands])
  rw [hv] at h1
  rw [hj] at h2
  generalize hu : a.eval x = u at h1
  generalize hu2 : a.eval i = u2 at h2
  cases h1
  rename_i s hget hn
  cases h2
  have hlt' : j < s.data.toList.length := by have := Nat.le_of_ble_eq_true hlt; omega
  have hg := hget j s.data.toList[j] (List.getElem?_eq_getElem hlt')
  have hb' : tr.get (o + j) = some b := hb
  rw [hg] at hb'
  refine ⟨.int .u8 (s.data.toList[j].toNat), ?_, ?_⟩
  · have h3 := stringT_some hs
    have h4 : s[j]? = some s.data.toList[j] := by rw [bytes_get]; exact List.getElem?_eq_getElem hlt'
    have h5 : (0 : Int) ≤ (j : Int) := Int.natCast_nonneg j
    simp only [execOp, ho, hu, hu2, Instr.index, asIntOf, Sem.run_bind, Sem.run_pure, Result.andThen_ok, run_underlying h3]
    have h6 : (if (0 : Int) ≤ Int.ofNat j then s[(Int.ofNat j).toNat]? else none) = some s.data.toList[j] := by
      rw [if_pos (show (0 : Int) ≤ Int.ofNat j from Int.natCast_nonneg j)]
      exact h4
    rw [h6]
    simp
  · have : b = s.data.toList[j].toNat := (Option.some.inj hb').symm
    rw [this]
    exact .int _ _

theorem extractF_ok {x : Operand} {i : Nat} (hr : extractF x i t h k = some r) : ∃ v, k v = some r ∧ PureOK E (.extract x i) t h v := by
  unfold extractF at hr
  simp only [evK_eq, asTup_some, ob_some, nthL_eq] at hr
  obtain ⟨xs, hv, v, hi, hr⟩ := hr
  refine ⟨_, hr, fun ρ w a n o' ho hsig hrel hx => ?_⟩
  have h1 := hx x (by simp [Op.operands])
  rw [hv] at h1
  generalize hu : a.eval x = u at h1
  cases h1
  rename_i us h3 h4
  obtain ⟨u, hu', hvr⟩ := VRs.get ⟨h3, h4⟩ hi
  exact ⟨u, by simp [execOp, ho, hu, Instr.extract, hu'], hvr⟩

theorem funcF_ok {fn : Fn} {first caps : Array Operand} (hr : funcF fn first caps t h k = some r) : ∃ v, k v = some r ∧ PureOK E (.makeFunc fn first caps) t h v := by
  unfold funcF at hr
  cases fn <;> simp only [evsK_eq, gd_some, reduceCtorEq] at hr
  rename_i f
  obtain ⟨he, hr⟩ := hr
  refine ⟨_, hr, fun ρ w a n o' ho hsig hrel hx => ?_⟩
  have h1 : first = #[] := by simpa using he
  subst h1
  refine ⟨.func (.func f) #[] (caps.map a.eval), by simp [execOp, ho, Instr.makeFunc], .func f _ _ (by simp) ?_⟩
  intro i x u hxi hui
  simp only [List.getElem?_map, Array.getElem?_toList, Array.getElem?_map] at hxi hui
  cases hc : caps[i]? with
  | none => simp [hc] at hxi
  | some y =>
    simp [hc] at hxi hui
    subst hxi
    subst hui
    exact hx y (by simp [Op.operands]; exact Array.mem_of_getElem? hc)
end
end Go.Proofs.YtgedmmmgkfehjaaGreatDoor

namespace Go.Proofs.YtgedmmmgkfehjaaGreatDoor

section
variable {β : Type} {E : Env} {t : Tm} {h : Hp} {k : AV → R β} {r : β}

/-! ### builtins -/
theorem lenF_ok {ty : TypeId} {x : Operand} (hr : lenF E ty x t h k = some r) : ∃ v, k v = some r ∧ PureOK E (.call { callee := .builtin .len, args := #[x], argTypes := #[ty] }) t h v := by
  unfold lenF at hr
  rw [evK_eq] at hr
  have run : ∀ (w : World) (a : Act) (o : Oper) (n : Nat), o.op = .call { callee := .builtin .len, args := #[x], argTypes := #[ty] } → (Builtin.len_ #[ty] o.type #[a.eval x]).run E.P w = .ok (.int .i64 (Int.ofNat n)) w →
      (execOp a.eval o).run E.P w = .ok (.value (.int .i64 (Int.ofNat n))) w := by
    intro w a o n ho h1
    simp [execOp, ho, resolve, invoke, builtin, h1]
  cases hv : ev t x <;> rw [hv] at hr <;> simp only [gd_some, ob_some, reduceCtorEq] at hr
  · rename_i tr o n
    obtain ⟨hs, hr⟩ := hr
    refine ⟨_, hr, fun ρ w a n' o' ho hsig hrel hx => ⟨_, run w a o' n ho ?_, .int _ _⟩⟩
    have h1 := hx x (by simp [Op.operands, Call.operands])
    rw [hv] at h1
    generalize hu : a.eval x = u at h1
    cases h1
    rename_i s hget hn
    have h2 := stringT_some hs
    have h3 : s.size = n := by rw [← hn, Array.length_toList]; rfl
    simp only [Builtin.len_, List.getElem?_toArray, List.getElem?_cons_zero, Sem.run_bind, run_underlying h2, Result.andThen_ok, Sem.run_pure, goInt, h3]
    rfl
  · rename_i l o n c
    obtain ⟨p, hs, hr⟩ := hr
    refine ⟨_, hr, fun ρ w a n' o' ho hsig hrel hx => ⟨_, run w a o' n ho ?_, .int _ _⟩⟩
    have h1 := hx x (by simp [Op.operands, Call.operands])
    rw [hv] at h1
    obtain ⟨b, cap, _, hu, _⟩ := sl_inv h1
    have h2 := (sliceE_some (e := p.1) (m := p.2) hs).1
    simp [Builtin.len_, run_underlying h2, goInt, hu]
  · obtain ⟨p, hs, hr⟩ := hr
    refine ⟨_, hr, fun ρ w a n' o' ho hsig hrel hx => ⟨_, run w a o' 0 ho ?_, .int _ _⟩⟩
    have h1 := hx x (by simp [Op.operands, Call.operands])
    rw [hv] at h1
    generalize hu : a.eval x = u at h1
    cases h1
    have h2 := (sliceE_some (e := p.1) (m := p.2) hs).1
    simp [Builtin.len_, run_underlying h2, goInt]

theorem maxF_ok {mx : Bool} {x y : Operand} {tys : Array TypeId} (hr : maxF mx x y t h k = some r) : ∃ v, k v = some r ∧ PureOK E (.call { callee := .builtin (if mx then .max else .min), args := #[x, y], argTypes := tys }) t h v := by
  unfold maxF at hr
  simp only [evK_eq] at hr
  split at hr
  · rename_i p q hp hq
    refine ⟨_, hr, fun ρ w a n' o' ho hsig hrel hx => ?_⟩
    have h1 := hx x (by simp [Op.operands, Call.operands])
    have h2 := hx y (by simp [Op.operands, Call.operands])
    rw [hp] at h1 ⊢
    rw [hq] at h2 ⊢
    generalize hu : a.eval x = u at h1
    generalize hu' : a.eval y = u' at h2
    cases h1
    cases h2
    refine ⟨if p < q then (if mx then .int .i64 q else .int .i64 p) else (if mx then .int .i64 p else .int .i64 q), ?_, ?_⟩
    · cases mx
      · simp [execOp, ho, resolve, invoke, builtin, Builtin.min_, Builtin.min2, hu, hu', List.foldlM]
        split <;> split <;> simp_all <;> omega
      · simp [execOp, ho, resolve, invoke, builtin, Builtin.max_, Builtin.max2, hu, hu', List.foldlM]
        split <;> simp_all
    · cases mx <;> simp only [ifB_eq, decide_eq_true_eq] <;> split <;> first | exact .int _ _ | simp_all [VR.int]
  · rename_i p q hp hq
    refine ⟨_, hr, fun ρ w a n' o' ho hsig hrel hx => ?_⟩
    have h1 := hx x (by simp [Op.operands, Call.operands])
    have h2 := hx y (by simp [Op.operands, Call.operands])
    rw [hp] at h1 ⊢
    rw [hq] at h2 ⊢
    generalize hu : a.eval x = u at h1
    generalize hu' : a.eval y = u' at h2
    cases h1
    cases h2
    refine ⟨if p < q then (if mx then .int .i64 (ρ.sig + q) else .int .i64 (ρ.sig + p)) else (if mx then .int .i64 (ρ.sig + p) else .int .i64 (ρ.sig + q)), ?_, ?_⟩
    · cases mx
      · simp [execOp, ho, resolve, invoke, builtin, Builtin.min_, Builtin.min2, hu, hu', List.foldlM]
        split <;> split <;> simp_all <;> omega
      · simp [execOp, ho, resolve, invoke, builtin, Builtin.max_, Builtin.max2, hu, hu', List.foldlM]
        split <;> simp_all
    · cases mx <;> simp only [ifB_eq, decide_eq_true_eq] <;> split <;> first | exact .sym _ | simp_all [VR.sym]
  · cases hr

theorem sliceDataF_ok {x : Operand} {tys : Array TypeId} (hr : sliceDataF x t h k = some r) : ∃ v, k v = some r ∧ PureOK E (.call { callee := .builtin .unsafeSliceData, args := #[x], argTypes := tys }) t h v := by
  unfold sliceDataF at hr
  simp only [evK_eq, asSl_some, gd_some, ob_some] at hr
  obtain ⟨l, o, n, c, hv, hn, b, hb, hr⟩ := hr
  have hc : c = none := by cases c <;> simp_all
  subst hc
  cases b <;> simp only [gd_some, reduceCtorEq] at hr
  rename_i cs m z e
  obtain ⟨hm, hr⟩ := hr
  refine ⟨_, hr, fun ρ w a n' o' ho hsig hrel hx => ?_⟩
  have h1 := hx x (by simp [Op.operands, Call.operands])
  rw [hv] at h1
  generalize hu : a.eval x = u at h1
  cases h1
  rename_i b hl hcap
  obtain ⟨x', hx', cs', _, h2, h3, h4, _⟩ := hrel.obj l _ b hb hl
  have h5 : ρ.cap l ≠ 0 := by
    intro h0
    rw [h0, Nat.zero_mul] at h2
    have := Nat.le_of_ble_eq_true hm
    omega
  have e : ∀ (c n : Nat) (ty : TypeId), c ≠ 0 → (Builtin.unsafeSliceData_ tys ty #[.slice (some ⟨b, 0, none⟩) n c]).run E.P w = .ok (.pointer (some ⟨b, 0, none⟩)) w := by
    intro c n ty hc
    show Sem.run E.P (if c ≠ 0 then (pure (Value.pointer (some ⟨b, 0, none⟩)) : Sem Value) else _) w = _
    rw [if_pos hc]
    rfl
  exact ⟨.pointer (some ⟨b, 0, none⟩), by simp [execOp, ho, resolve, invoke, builtin, hu, e _ _ _ h5], .ptr l b 0 hl⟩

/-! ### bounds -/
/-- a bound that may be missing -/
def Bd (p : Operand → Nat → Prop) (x : Option Operand) (d m : Nat) : Prop := (x = none ∧ m = d) ∨ ∃ z, x = some z ∧ p z m
theorem boundK_some {x : Option Operand} {d : Nat} {k : Nat → R β} {r : β} : boundK t x d k = some r ↔ ∃ n, Bd (fun z m => ∃ q, ev t z = .int q (.ofNat m)) x d n ∧ k n = some r := by
  cases x with
  | none =>
    constructor
    · intro h; exact ⟨d, .inl ⟨rfl, rfl⟩, h⟩
    · rintro ⟨n, ⟨_, rfl⟩ | ⟨z, h, _⟩, h2⟩
      · exact h2
      · cases h
  | some x =>
    show evK t x (fun v => asNat v k) = some r ↔ _
    rw [evK_eq, asNat_some]
    constructor
    · rintro ⟨q, n, h1, h2⟩; exact ⟨n, .inr ⟨x, rfl, q, h1⟩, h2⟩
    · rintro ⟨n, ⟨h, _⟩ | ⟨z, h, q, h1⟩, h2⟩
      · cases h
      · cases h; exact ⟨q, n, h1, h2⟩
/-- what a bound evaluates to -/
theorem bound_eval {ρ : Den} {a : Act} {x : Operand} {q : IntKind} {n : Nat} (h1 : VR ρ (ev t x) (a.eval x)) (h2 : ev t x = .int q (.ofNat n)) : a.eval x = .int q n := by
  rw [h2] at h1
  generalize a.eval x = u at h1
  cases h1
  rfl
theorem run_sliceBound {P : Program} (w : World) (q : IntKind) (n y : Nat) (c : BoundsCode) (h : n ≤ y) : (Instr.sliceBound (.int q n) y c).run P w = .ok n w := by
  have h1 : (0 : Int) ≤ (n : Int) ∧ (n : Int) ≤ (y : Int) := ⟨Int.natCast_nonneg n, by omega⟩
  simp [Instr.sliceBound, asIntOf, h]
/-- the bounds of a slice -/
theorem run_bounds {P : Program} {a : Act} (w : World) (sl : Bool) (len cap : Nat) (lo hi mx : Option Operand) (x y m : Nat)
    (hl : Bd (fun z m => ∃ q, a.eval z = .int q m) lo 0 x) (hh : Bd (fun z m => ∃ q, a.eval z = .int q m) hi len y)
    (hm : Bd (fun z m => ∃ q, a.eval z = .int q m) mx cap m) (h1 : x ≤ y) (h2 : y ≤ m) (h3 : m ≤ cap) (h4 : (mx.isNone || hi.isSome) = true) :
    (Instr.sliceBounds sl len cap (lo.map a.eval) (hi.map a.eval) (mx.map a.eval)).run P w = .ok (x, y, m) w := by
  rcases hm with ⟨rfl, rfl⟩ | ⟨o'', rfl, q'', hq''⟩
  · rcases hh with ⟨rfl, rfl⟩ | ⟨o', rfl, q', hq'⟩
    · rcases hl with ⟨rfl, rfl⟩ | ⟨o, rfl, q, hq⟩
      · simp [Instr.sliceBounds]
      · simp [Instr.sliceBounds, hq, run_sliceBound w q x y _ h1]
    · rcases hl with ⟨rfl, rfl⟩ | ⟨o, rfl, q, hq⟩
      · simp [Instr.sliceBounds, hq', run_sliceBound w q' y m _ h2]
      · simp [Instr.sliceBounds, hq, hq', run_sliceBound w q x y _ h1, run_sliceBound w q' y m _ h2]
  · rcases hh with ⟨rfl, rfl⟩ | ⟨o', rfl, q', hq'⟩
    · simp at h4
    · rcases hl with ⟨rfl, rfl⟩ | ⟨o, rfl, q, hq⟩
      · simp [Instr.sliceBounds, hq', hq'', run_sliceBound w q' y m _ h2, run_sliceBound w q'' m cap _ h3]
      · simp [Instr.sliceBounds, hq, hq', hq'', run_sliceBound w q x y _ h1, run_sliceBound w q' y m _ h2, run_sliceBound w q'' m cap _ h3]
end
end Go.Proofs.YtgedmmmgkfehjaaGreatDoor
