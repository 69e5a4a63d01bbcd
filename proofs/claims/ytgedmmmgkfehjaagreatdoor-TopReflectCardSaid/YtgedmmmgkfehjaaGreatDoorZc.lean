/- What the reckoner says of an operation that looks at its operands, and reads: so does the model. -/
import Derived.Test.YtgedmmmgkfehjaaGreatDoorZb
import Derived.Deep.MidRow
import Derived.Laws.CopyRow
import Derived.ChangeKeysEq
namespace Go.Proofs.YtgedmmmgkfehjaaGreatDoor

/-! ### constants -/
theorem bytesTr_spec (l : List UInt8) : (∃ t, (bytesTr l fun t => some (.str t 0 (lenL l))) = some (.str t 0 l.length) ∧ ∀ m, t.get m = (l.map UInt8.toNat)[m]?) ∨ (bytesTr l fun t => some (.str t 0 (lenL l))) = none := by
  cases h : (bytesTr l fun t => some (.str t 0 (lenL l))) with
  | none => exact .inr rfl
  | some v =>
    obtain ⟨t, h1, h2⟩ := fillK_nil _ _ _ h
    rw [lenL_eq] at h1
    cases h1
    exact .inl ⟨t, rfl, h2⟩
theorem ofV1_vr (ρ : Den) (v : Value) : VR ρ (ofV1 v) v := by
  unfold ofV1
  split
  · exact .bool _
  · exact .int _ _
  · exact .float _ _
  · rename_i s
    rcases bytesTr_spec s.data.toList with ⟨t, h1, h2⟩ | h1
    · rw [h1]
      refine .str t 0 _ s rfl fun i x hx => ?_
      rw [Nat.zero_add, h2, List.getElem?_map, hx]
      rfl
    · rw [h1]; exact .bad _
  · exact .pnil
  · exact .snil
  · exact .mnil
  · exact .nilFunc
  · exact .nilIface
  · exact .bad _
theorem ofV_vr (ρ : Den) (v : Value) : VR ρ (ofV v) v := by
  unfold ofV
  split
  · rename_i xs
    refine .agg _ xs (by simp) fun i x u hx hu => ?_
    rw [List.getElem?_map, Array.getElem?_toList, hu] at hx
    cases hx
    exact ofV1_vr ρ u
  · exact ofV1_vr ρ _
theorem ofV_cells (ρ : Den) (v : Value) : VRs ρ (ofV v).cells v.cells := by
  unfold ofV
  split
  · rename_i xs
    refine ⟨by simp [AV.cells, Value.cells], fun i x u hx hu => ?_⟩
    simp only [AV.cells, Value.cells] at hx hu
    rw [List.getElem?_map, Array.getElem?_toList, hu] at hx
    cases hx
    exact ofV1_vr ρ u
  · rename_i hno
    have h1 : v.cells = #[v] := by
      unfold Value.cells
      split
      · rename_i xs; exact absurd rfl (hno xs)
      · rfl
    have h2 : (ofV1 v).cells = [ofV1 v] := by
      unfold AV.cells
      split
      · rename_i xs hx
        exfalso
        unfold ofV1 at hx
        split at hx <;> first | cases hx | skip
        rename_i s
        rcases bytesTr_spec s.data.toList with ⟨t, h3, _⟩ | h3
        · rw [h3] at hx; cases hx
        · rw [h3] at hx; cases hx
      · rfl
    rw [h1, h2]
    refine ⟨rfl, fun i x u hx hu => ?_⟩
    cases i with
    | zero => simp at hx hu; subst hx; subst hu; exact ofV1_vr ρ v
    | succ i => simp at hx
theorem opR_of_TR {ρ : Den} {t : Tm} {a : Act} (h : TR ρ t a.tmps) (x : Operand) : VR ρ (ev t x) (a.eval x) := by
  cases x with
  | tmp i =>
    show VR ρ ((t.get i).getD .bad) (a.tmps.getD i undef)
    cases hg : t.get i with
    | none => exact .bad _
    | some v => exact h i v hg
  | const v => exact ofV_vr ρ v
  | global g => exact .bad _
  | func f => exact .func f [] #[] rfl fun i x u hx => by simp at hx

/-- the given int lies between the bounds -/
structure SigOK (E : Env) (ρ : Den) : Prop where
  zero : 0 ≤ E.lo
  lo : E.lo ≤ ρ.sig
  hi : ρ.sig ≤ E.hi
  top : E.hi ≤ 200
theorem SigOK.le {E : Env} {ρ ρ' : Den} (h : SigOK E ρ) (hr : ρ.Le ρ') : SigOK E ρ' := ⟨h.zero, by rw [hr.sig]; exact h.lo, by rw [hr.sig]; exact h.hi, h.top⟩
/-- what the reckoner says of an operation that turns nothing: it yields what v stands for -/
def PureOK (E : Env) (op : Op) (t : Tm) (h : Hp) (v : AV) : Prop :=
  ∀ (ρ : Den) (w : World) (a : Act) (n : Nat) (o : Oper), o.op = op → SigOK E ρ → Rel ρ h.get n w → (∀ x, x ∈ op.operands → VR ρ (ev t x) (a.eval x)) →
    ∃ u, (execOp a.eval o).run E.P w = .ok (.value u) w ∧ VR ρ v u

section
variable {β : Type} {E : Env} {t : Tm} {h : Hp} {k : AV → R β} {r : β}

theorem moveF_ok {x : Operand} (hr : moveF x t h k = some r) : ∃ v, k v = some r ∧ PureOK E (.move x) t h v := by
  unfold moveF at hr
  rw [evK_eq] at hr
  refine ⟨_, hr, fun ρ w a n o ho hsig _ hx => ⟨a.eval x, ?_, hx x (by simp [Op.operands])⟩⟩
  simp [execOp, ho]
theorem assignF_ok {x : Operand} (hr : moveF x t h k = some r) : ∃ v, k v = some r ∧ PureOK E (.assign x) t h v := by
  unfold moveF at hr
  rw [evK_eq] at hr
  refine ⟨_, hr, fun ρ w a n o ho hsig _ hx => ⟨a.eval x, ?_, hx x (by simp [Op.operands])⟩⟩
  simp [execOp, ho]
theorem pickF_ok {c x y : Operand} (hr : pickF c x y t h k = some r) : ∃ v, k v = some r ∧ PureOK E (.pick c x y) t h v := by
  unfold pickF at hr
  simp only [evK_eq, asBool_some] at hr
  obtain ⟨b, hb, hr⟩ := hr
  cases b with
  | true =>
    refine ⟨_, hr, fun ρ w a n o ho hsig _ hx => ⟨a.eval x, ?_, hx x (by simp [Op.operands])⟩⟩
    have h1 := hx c (by simp [Op.operands])
    rw [hb] at h1
    generalize hu : a.eval c = u at h1
    cases h1
    simp [execOp, ho, hu, asBool]
  | false =>
    refine ⟨_, hr, fun ρ w a n o ho hsig _ hx => ⟨a.eval y, ?_, hx y (by simp [Op.operands])⟩⟩
    have h1 := hx c (by simp [Op.operands])
    rw [hb] at h1
    generalize hu : a.eval c = u at h1
    cases h1
    simp [execOp, ho, hu, asBool]
theorem nilF_ok {x : Operand} (hr : nilF x t h k = some r) : ∃ v, k v = some r ∧ PureOK E (.nilCheck x) t h v := by
  unfold nilF at hr
  simp only [evK_eq, asPtr_some] at hr
  obtain ⟨l, o, hb, hr⟩ := hr
  refine ⟨_, hr, fun ρ w a n o' ho hsig _ hx => ⟨a.eval x, ?_, ?_⟩⟩
  · have h1 := hx x (by simp [Op.operands])
    rw [hb] at h1
    generalize hu : a.eval x = u at h1
    cases h1
    simp [execOp, ho, hu]
  · rw [← hb]; exact hx x (by simp [Op.operands])
theorem notF_ok {op : UnOp} {ty : TypeId} {x : Operand} (hr : notF op x t h k = some r) : ∃ v, k v = some r ∧ PureOK E (.unOp op ty x) t h v := by
  unfold notF at hr
  cases op <;> simp only [evK_eq, asBool_some, forceB_eq, reduceCtorEq] at hr
  obtain ⟨b, hb, hr⟩ := hr
  refine ⟨_, hr, fun ρ w a n o' ho hsig _ hx => ⟨.bool (!b), ?_, .bool _⟩⟩
  have h1 := hx x (by simp [Op.operands])
  rw [hb] at h1
  generalize hu : a.eval x = u at h1
  cases h1
  simp [execOp, ho, hu, Op.unary]

/-! ### objects -/
/-- the cells of an object that are told lie in the world -/
theorem cellAt_spec {ρ : Den} {l b i : Nat} {o : AO} {v : AV} {n : Nat} {w : World} {hf : Hf} (hr : Rel ρ hf n w) (hl : hf l = some o) (hb : ρ.at_ l = some b) (hc : cellAt o i = some v) :
    ∃ u, w.cell? ⟨b, i, none⟩ = some u ∧ VR ρ v u := by
  obtain ⟨x, hx, ho⟩ := hr.obj l o b hl hb
  cases o with
  | cells c m e =>
    obtain ⟨cs, rfl, h2, h3⟩ := ho
    simp only [cellAt, gd_some] at hc
    obtain ⟨u, hu, hv⟩ := h3 i v (by have := Nat.le_of_ble_eq_true hc.1; omega) hc.2
    exact ⟨u, by simp [World.cell?, hx, hu], hv⟩
  | row c m z e =>
    obtain ⟨cs, rfl, h2, h4, h5, h3⟩ := ho
    simp only [cellAt, gd_some] at hc
    obtain ⟨u, hu, hv⟩ := h3 i v (by have := Nat.le_of_ble_eq_true hc.1; omega) hc.2
    exact ⟨u, by simp [World.cell?, hx, hu], hv⟩
  | map es => cases hc
theorem readN_cells {ρ : Den} {l b i m : Nat} {o : AO} {vs : List AV} {n : Nat} {w : World} {hf : Hf} (hr : Rel ρ hf n w) (hl : hf l = some o) (hb : ρ.at_ l = some b) (hc : readN o i m = some vs) :
    ∃ us : List Value, us.length = m ∧ (∀ j u, us[j]? = some u → w.cell? ⟨b, i + j, none⟩ = some u) ∧ VRs ρ vs us.toArray := by
  obtain ⟨h1, h2⟩ := readN_spec m o i vs hc
  have h3 : ∀ j, j < m → ∃ u, w.cell? ⟨b, i + j, none⟩ = some u ∧ ∀ v, vs[j]? = some v → VR ρ v u := by
    intro j hj
    have := h2 j hj
    rw [List.getElem?_eq_getElem (by omega)] at this
    obtain ⟨u, hu, hv⟩ := cellAt_spec hr hl hb this
    refine ⟨u, hu, fun v hv' => ?_⟩
    rw [List.getElem?_eq_getElem (by omega)] at hv'
    cases hv'
    exact hv
  refine ⟨(List.range m).map fun j => (w.cell? ⟨b, i + j, none⟩).getD undef, by simp, ?_, by simp [h1], ?_⟩
  · intro j u hu
    have hj : j < m := by
      have := (List.getElem?_eq_some_iff.1 hu).1
      simpa using this
    obtain ⟨u', hu', _⟩ := h3 j hj
    simp [hj, hu'] at hu
    rw [hu', hu]
  · intro j v u hv hu
    have hj : j < m := by
      have := (List.getElem?_eq_some_iff.1 hv).1
      omega
    obtain ⟨u', hu', hv'⟩ := h3 j hj
    simp [hj, hu'] at hu
    subst hu
    exact hv' v hv

theorem shapeT_some {ty : TypeId} {s : Option Nat} (hs : E.shapeT ty = some s) : match s with
    | some n => ∃ d, E.P.underlying ty = some d ∧ d.isRow = true ∧ (E.P.info? ty).map (·.size) = some n
    | none => ∃ d, E.P.underlying ty = some d ∧ d.isRow = false := by
  unfold Env.shapeT at hs
  split at hs
  · rename_i n h1 h2
    cases hs
    unfold Env.aggB Env.desc at h1
    cases hd : E.P.underlying ty with
    | none => simp [hd] at h1
    | some d =>
      refine ⟨d, rfl, ?_, h2⟩
      simp only [hd, Option.map_some, Option.some.injEq] at h1
      cases d <;> simp_all
  · rename_i h1 h2
    cases hs
    unfold Env.aggB Env.desc at h1
    cases hd : E.P.underlying ty with
    | none => simp [hd] at h1
    | some d =>
      refine ⟨d, rfl, ?_⟩
      simp only [hd, Option.map_some, Option.some.injEq] at h1
      cases d <;> simp_all
  · cases hs

theorem run_loadVar_one {P : Program} (w : World) (b o : Nat) (ty : TypeId) (v : Value) (d : TypeDesc) (hc : w.cell? ⟨b, o, none⟩ = some v) (hu : P.underlying ty = some d) (hd : d.isRow = false) :
    (loadVar ty ⟨b, o, none⟩).run P w = .ok v w := by
  have hagg : (isAgg ty).run P w = .ok false w := by
    unfold isAgg
    rw [Sem.run_bind, run_underlying hu w]
    cases d <;> simp_all
  simp [loadVar, Sem.run_bind, hagg, hc]

theorem loadV_run {ty : TypeId} {ρ : Den} {n : Nat} {w : World} {x v : AV} {u : Value} (hl : E.loadV h ty x = some v) (hr : Rel ρ h.get n w) (hx : VR ρ x u) :
    ∃ a, u = .pointer (some a) ∧ ∃ u', (loadVar ty a).run E.P w = .ok u' w ∧ VR ρ v u' := by
  unfold Env.loadV at hl
  simp only [asPtr_some, ob_some] at hl
  obtain ⟨l, o, rfl, b, hb, hl⟩ := hl
  cases hx
  rename_i b' hl'
  refine ⟨_, rfl, ?_⟩
  unfold Env.readT at hl
  simp only [ob_some] at hl
  obtain ⟨s, hs, hl⟩ := hl
  have hsh := shapeT_some hs
  cases s with
  | none =>
    obtain ⟨d, h1, h2⟩ := hsh
    obtain ⟨u, hu, hv⟩ := cellAt_spec hr hb hl' hl
    exact ⟨u, run_loadVar_one w b' o ty u d hu h1 h2, hv⟩
  | some m =>
    simp only [ob_some] at hl
    obtain ⟨vs, hvs, he⟩ := hl
    cases he
    obtain ⟨d, h1, h2, h3⟩ := hsh
    obtain ⟨us, hlen, hcell, hvr⟩ := readN_cells hr hb hl' hvs
    exact ⟨.agg us.toArray, run_loadVar_mid w b' o ty us d hcell h1 h2 (by rw [hlen]; exact h3), .agg _ _ hvr.1 hvr.2⟩

theorem loadF_ok {ty : TypeId} {x : Operand} (hr : loadF E ty x t h k = some r) : ∃ v, k v = some r ∧ PureOK E (.load ty x) t h v := by
  unfold loadF at hr
  simp only [evK_eq, ob_some] at hr
  obtain ⟨v, hv, hr⟩ := hr
  refine ⟨v, hr, fun ρ w a n o ho hsig hrel hx => ?_⟩
  obtain ⟨ad, h1, u, h2, h3⟩ := loadV_run hv hrel (hx x (by simp [Op.operands]))
  exact ⟨u, by simp [execOp, ho, h1, Instr.loadAt, Instr.sureAddr, h2], h3⟩
end
end Go.Proofs.YtgedmmmgkfehjaaGreatDoor
