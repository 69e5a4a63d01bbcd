/- Operations that make an object. -/
import Derived.Test.YtgedmmmgkfehjaaGreatDoorZc8
import Derived.Laws.MakeOwn
namespace Go.Proofs.YtgedmmmgkfehjaaGreatDoor

/-- one label more -/
def Den.put (ρ : Den) (l b c : Nat) : Den := { ρ with at_ := fun x => if x = l then some b else ρ.at_ x, cap := fun x => if x = l then c else ρ.cap x }
theorem Den.put_le {ρ : Den} {l b c : Nat} (h : ρ.at_ l = none) : ρ.Le (ρ.put l b c) := by
  refine ⟨fun x y hx => ?_, rfl, rfl⟩
  have : x ≠ l := by intro e; subst e; rw [h] at hx; cases hx
  simp [Den.put, this, hx]
theorem Den.put_same (ρ : Den) (l b c : Nat) : (ρ.put l b c).at_ l = some b := by simp [Den.put]

/-- a new block at a label that had none -/
theorem Rel.alloc {ρ : Den} {h h' : Hf} {n n' l c : Nat} {w : World} {ob : AO} {obj : Obj} (hr : Rel ρ h n w) (hl : ρ.at_ l = none) (hn : n ≤ n') (hl' : l < n')
    (h1 : h' l = some ob) (h2 : ∀ x, x ≠ l → h' x = h x ∨ h' x = none) (ho : OR (ρ.put l w.heap.size c) l ob obj) : Rel (ρ.put l w.heap.size c) h' n' { w with heap := w.heap.push obj } := by
  have hle : ρ.Le (ρ.put l w.heap.size c) := Den.put_le hl
  have hb := hr.floor
  refine ⟨by show ρ.base ≤ _; simp; omega, ?_, ?_, ?_⟩
  · intro x b hx
    by_cases hxl : x = l
    · subst hxl
      rw [Den.put_same] at hx
      cases hx
      exact ⟨hb, by simp, hl'⟩
    · simp only [Den.put, if_neg hxl] at hx
      obtain ⟨g1, g2, g3⟩ := hr.dom x b hx
      exact ⟨g1, by simp; omega, by omega⟩
  · intro x o b hx hxb
    by_cases hxl : x = l
    · subst hxl
      rw [Den.put_same] at hxb
      cases hxb
      rw [h1] at hx
      cases hx
      exact ⟨obj, by simp, ho⟩
    · simp only [Den.put, if_neg hxl] at hxb
      have hx' : h x = some o := by
        rcases h2 x hxl with e | e
        · rw [← e]; exact hx
        · rw [e] at hx; cases hx
      obtain ⟨y, hy, hor⟩ := hr.obj x o b hx' hxb
      have := (hr.dom x b hxb).2.1
      refine ⟨y, ?_, OR.mono hle hxb hor⟩
      rw [Array.getElem?_push, if_neg (by omega)]
      exact hy
  · intro x x' b o o' hx hx' ho ho'
    by_cases hxl : x = l <;> by_cases hxl' : x' = l
    · rw [hxl, hxl']
    · subst hxl
      rw [Den.put_same] at hx
      cases hx
      simp only [Den.put, if_neg hxl'] at hx'
      have := (hr.dom x' _ hx').2.1
      omega
    · subst hxl'
      rw [Den.put_same] at hx'
      cases hx'
      simp only [Den.put, if_neg hxl] at hx
      have := (hr.dom x _ hx).2.1
      omega
    · simp only [Den.put, if_neg hxl, if_neg hxl'] at hx hx'
      have g : ∀ y o, y ≠ l → h' y = some o → h y = some o := by
        intro y o hy hy'
        rcases h2 y hy with e | e
        · rw [← e]; exact hy'
        · rw [e] at hy'; cases hy'
      exact hr.inj x x' b _ _ hx hx' (g _ _ hxl ho) (g _ _ hxl' ho')

/-- what an operation makes -/
def NewOK (E : Env) (op : Op) (t : Tm) (ob : AO) (mk : Nat → AV) : Prop :=
  ∀ (ρ : Den) (w : World) (a : Act) (o : Oper), o.op = op → (∀ x, x ∈ op.operands → VR ρ (ev t x) (a.eval x)) →
    ∃ (obj : Obj) (u : Nat → Value), (execOp a.eval o).run E.P w = .ok (.value (u w.heap.size)) { w with heap := w.heap.push obj } ∧
      ∀ (ρ' : Den) (l b : Nat), ρ.Le ρ' → ρ'.at_ l = some b → OR ρ' l ob obj ∧ VR ρ' (mk l) (u b)

/-- a new object at the next label; some labels may go -/
theorem Post.alloc' {ρ : Den} {h h' : Hf} {n : Nat} {w : World} {ob : AO} {obj : Obj} {c : Nat} (hr : Rel ρ h n w)
    (h1 : h' n = some ob) (h2 : ∀ x, x ≠ n → h' x = h x ∨ (h' x = none ∧ ∃ b, ρ.at_ x = some b)) (ho : OR (ρ.put n w.heap.size c) n ob obj) :
    Post ρ h n w (ρ.put n w.heap.size c) h' (n + 1) { w with heap := w.heap.push obj } := by
  have hn : ρ.at_ n = none := by
    cases hq : ρ.at_ n with
    | none => rfl
    | some b => have := (hr.dom n b hq).2.2; omega
  refine ⟨Den.put_le hn, Rel.alloc hr hn (by omega) (by omega) h1 (fun x hx => (h2 x hx).imp id (fun e => e.1)) ho, by omega, ?_, ?_, ?_, ?_, by simp, rfl, rfl, rfl⟩
  · intro l hl hnone
    have : l ≠ n := by omega
    refine ⟨by simp [Den.put, this, hnone], ?_⟩
    rcases h2 l this with e | ⟨_, b, hb⟩
    · exact e
    · rw [hb] at hnone; cases hnone
  · intro l hl hnone
    rcases h2 l (by omega) with e | ⟨e, _⟩
    · rw [e]; exact hnone
    · exact e
  · intro l b hlb
    by_cases hln : l = n
    · subst hln
      rw [Den.put_same] at hlb
      cases hlb
      exact .inr (.inl (Nat.le_refl _))
    · simp only [Den.put, if_neg hln] at hlb
      exact .inl hlb
  · intro b hb' _
    rw [Array.getElem?_push, if_neg (by omega)]
/-- a new object at the next label -/
theorem Post.alloc {ρ : Den} {h h' : Hf} {n : Nat} {w : World} {ob : AO} {obj : Obj} {c : Nat} (hr : Rel ρ h n w)
    (h1 : ∀ x, h' x = if x = n then some ob else h x) (ho : OR (ρ.put n w.heap.size c) n ob obj) :
    Post ρ h n w (ρ.put n w.heap.size c) h' (n + 1) { w with heap := w.heap.push obj } := by
  have hn : ρ.at_ n = none := by
    cases hq : ρ.at_ n with
    | none => rfl
    | some b => have := (hr.dom n b hq).2.2; omega
  refine ⟨Den.put_le hn, Rel.alloc hr hn (by omega) (by omega) (by rw [h1, if_pos rfl]) (fun x hx => .inl (by rw [h1, if_neg hx])) ho, by omega, ?_, ?_, ?_, ?_, by simp, rfl, rfl, rfl⟩
  · intro l hl hnone
    have : l ≠ n := by omega
    exact ⟨by simp [Den.put, this, hnone], by rw [h1, if_neg this]⟩
  · intro l hl hnone
    rw [h1, if_neg (by omega)]
    exact hnone
  · intro l b hlb
    by_cases hln : l = n
    · subst hln
      rw [Den.put_same] at hlb
      cases hlb
      exact .inr (.inl (Nat.le_refl _))
    · simp only [Den.put, if_neg hln] at hlb
      exact .inl hlb
  · intro b hb' _
    rw [Array.getElem?_push, if_neg (by omega)]

/-- cells that stand for cells -/
theorem or_cells {ρ : Den} {l : Nat} {vs : List AV} {us : Array Value} {c : Tr AV} {m : Nat} {e : TypeId} (hv : VRs ρ vs us) (hc : ∀ i, c.get i = vs[i]?) (hm : m = vs.length) : OR ρ l (.cells c m e) (.cells us e (0, 0)) := by
  refine ⟨us, rfl, by rw [hm, hv.1], fun i v hi hg => ?_⟩
  rw [hc] at hg
  exact hv.get hg

section
variable {β : Type} {E : Env} {t : Tm} {k : AO → (Nat → AV) → R β} {r : β}

theorem cellsK_some {e : TypeId} {l : List AV} {k : AO → R β} (hr : cellsK e l k = some r) : ∃ c, k (.cells c l.length e) = some r ∧ ∀ i, c.get i = l[i]? := by
  unfold cellsK at hr
  obtain ⟨c, h1, h2⟩ := fillK_nil _ _ _ hr
  rw [forceN_eq, lenL_eq] at h1
  exact ⟨c, h1, h2⟩

theorem allocF_ok {e : TypeId} (hr : allocF E e t k = some r) : ∃ ob mk, k ob mk = some r ∧ NewOK E (.alloc e) t ob mk := by
  unfold allocF at hr
  simp only [ob_some] at hr
  obtain ⟨z, hz, hr⟩ := hr
  obtain ⟨c, hr, hc⟩ := cellsK_some hr
  refine ⟨_, _, hr, fun ρ w a o ho hx => ⟨.cells z.cells e (0, 0), fun b => .pointer (some ⟨b, 0, none⟩), ?_, fun ρ' l b hle hl => ⟨or_cells (ofV_cells ρ' z) hc rfl, .ptr l b 0 hl⟩⟩⟩
  simp [execOp, ho, Instr.alloc, zero_run hz w, newVar, newRow]
theorem boxF_ok {e : TypeId} {x : Operand} (hr : boxF e x t k = some r) : ∃ ob mk, k ob mk = some r ∧ NewOK E (.box e x) t ob mk := by
  unfold boxF at hr
  simp only [evK_eq, gd_some] at hr
  obtain ⟨hk, hr⟩ := hr
  obtain ⟨c, hr, hc⟩ := cellsK_some hr
  refine ⟨_, _, hr, fun ρ w a o ho hx => ⟨.cells (a.eval x).cells e (0, 0), fun b => .pointer (some ⟨b, 0, none⟩), ?_, fun ρ' l b hle hl => ⟨or_cells (vr_cells ((hx x (by simp [Op.operands])).mono hle) hk) hc rfl, .ptr l b 0 hl⟩⟩⟩
  simp [execOp, ho, Instr.box, newVar, newRow]
theorem makeMapF_ok {ty : TypeId} {q : Option Operand} (hr : makeMapF q t k = some r) : ∃ ob mk, k ob mk = some r ∧ NewOK E (.makeMap ty q) t ob mk := by
  unfold makeMapF at hr
  cases q with
  | some x => cases hr
  | none =>
    refine ⟨_, _, hr, fun ρ w a o ho hx => ⟨.map #[] 0, fun b => .map (some b), ?_, fun ρ' l b hle hl => ⟨⟨#[], 0, rfl, rfl, fun i p e hp => by simp at hp⟩, .map l b hl⟩⟩⟩
    simp [execOp, ho, Instr.makeMap]

/-- so many times the same cells -/
theorem rep_len (z : List AV) (m : Nat) : (rep z m).length = m * z.length := by
  induction m with
  | zero =>
    have e : rep z 0 = [] := rfl
    rw [e]; simp
  | succ m ih =>
    have e : rep z (m + 1) = z ++ rep z m := rfl
    rw [e, List.length_append, ih, Nat.succ_mul]
    omega
theorem rep_get (z : List AV) : ∀ (m i : Nat), i < m * z.length → (rep z m)[i]? = z[i % z.length]? := by
  intro m
  induction m with
  | zero => intro i hi; omega
  | succ m ih =>
    intro i hi
    have e : rep z (m + 1) = z ++ rep z m := rfl
    rw [e]
    by_cases h : i < z.length
    · rw [List.getElem?_append_left h, Nat.mod_eq_of_lt h]
    · have hm := Nat.mod_eq_sub_mod (a := i) (b := z.length) (by omega)
      rw [List.getElem?_append_right (by omega), ih _ (by rw [Nat.succ_mul] at hi; omega), hm]
theorem rep_vrs {ρ : Den} {z : List AV} {us : Array Value} (hz : VRs ρ z us) (m n : Nat) (hn : n = m * us.size) : VRs ρ (rep z m) ((Array.range n).map fun i => us[i % us.size]!) := by
  subst hn
  refine ⟨by rw [rep_len, hz.1]; simp, fun i x u hx hu => ?_⟩
  have hi : i < m * us.size := by
    have := (List.getElem?_eq_some_iff.1 hx).1
    rw [rep_len, hz.1] at this
    exact this
  rw [rep_get z m i (by rw [hz.1]; exact hi), hz.1] at hx
  have hpos : 0 < us.size := by
    rcases Nat.eq_zero_or_pos us.size with h0 | h0
    · rw [h0] at hi; omega
    · exact h0
  have hlt : i % us.size < us.size := Nat.mod_lt _ hpos
  simp [hi, hlt] at hu
  subst hu
  exact hz.2 _ _ _ hx (by simp [hlt])

theorem makeSliceF_ok {ty : TypeId} {x c : Operand} (hr : makeSliceF E ty x c t k = some r) : ∃ ob mk, k ob mk = some r ∧ NewOK E (.makeSlice ty x c) t ob mk := by
  unfold makeSliceF at hr
  simp only [evK_eq, ob_some, gd_some, asNat_some] at hr
  obtain ⟨⟨e, s⟩, hs, z, hz, hlen, bt, hbt, hbt2, q, n, hn, q', m, hm, hnm, hm2, hr⟩ := hr
  obtain ⟨cc, hr, hc⟩ := cellsK_some hr
  obtain ⟨h1, h2⟩ := sliceE_some hs
  rw [Nat.beq_eq, lenL_eq] at hlen
  refine ⟨_, _, hr, fun ρ w a o ho hx => ?_⟩
  have hx1 := bound_eval (hx x (by simp [Op.operands])) hn
  have hx2 := bound_eval (hx c (by simp [Op.operands])) hm
  have hnm' := Nat.le_of_ble_eq_true hnm
  have hm2' := Nat.le_of_ble_eq_true hm2
  have hbt2' := Nat.le_of_ble_eq_true hbt2
  have hzv := ofV_cells ρ z
  have hzs : z.cells.size = s := by rw [← hzv.1]; exact hlen
  refine ⟨.cells ((Array.range (m * s)).map fun i => z.cells[i % z.cells.size]!) e (0, 0), fun b => .slice (some ⟨b, 0, none⟩) n m, ?_, fun ρ' l b hle hl => ⟨or_cells (rep_vrs (ofV_cells ρ' z) m (m * s) (by rw [hzs])) hc rfl, .sl l b 0 n m hl (Nat.le_of_ble_eq_true hnm)⟩⟩
  have hinfo : ∃ i, E.P.info? e = some i ∧ i.bytes = bt ∧ i.size = s ∧ i.zero = some z := by
    unfold Env.bytes at hbt
    unfold Env.zero at hz
    unfold Env.size at h2
    cases hi : E.P.info? e with
    | none => simp [hi] at hbt
    | some i =>
      simp [hi] at hbt hz h2
      exact ⟨i, rfl, hbt, h2, hz⟩
  obtain ⟨i, hi, hib, his, hiz⟩ := hinfo
  have hbm : (i.bytes : Int) * (m : Int) ≤ 281474976710656 := by
    rw [hib]
    have e1 : bt * m ≤ 1000000 * 1000000 := Nat.mul_le_mul hbt2' hm2'
    have e2 : ((bt * m : Nat) : Int) ≤ 1000000000000 := by omega
    rw [Int.natCast_mul] at e2
    omega
  have hrun := run_make (P := E.P) w ty e i z h1 hi hiz q q' n m (Int.natCast_nonneg n) (by omega) hbm (by omega)
  rw [Int.toNat_natCast, Int.toNat_natCast, his] at hrun
  simp only [execOp, ho, hx1, hx2, Sem.run_bind, hrun, Result.andThen_ok, Sem.run_pure]
  rfl

theorem buildSliceF_ok {ty : TypeId} {len : Nat} {ps : Array (Nat × Operand)} (hr : buildSliceF E ty len ps t k = some r) : ∃ ob mk, k ob mk = some r ∧ NewOK E (.buildSlice ty len ps) t ob mk := by
  unfold buildSliceF at hr
  simp only [evPs_eq, ob_some, gd_some] at hr
  obtain ⟨⟨e, s⟩, hs, z, hz, hlen, hsmall, l, hl, hr⟩ := hr
  obtain ⟨cc, hr, hc⟩ := cellsK_some hr
  obtain ⟨h1, h2⟩ := sliceE_some hs
  rw [Nat.beq_eq, lenL_eq] at hlen
  have hsmall' : len * s ≤ 1000000 := Nat.le_of_ble_eq_true hsmall
  refine ⟨_, _, hr, fun ρ w a o ho hx => ?_⟩
  have hx' : ∀ x, x ∈ ps.toList.map (·.2) → VR ρ (ev t x) (a.eval x) := fun x hm => hx x (by simpa [Op.operands] using hm)
  have hzv := ofV_cells ρ z
  have hzs : z.cells.size = s := by rw [← hzv.1]; exact hlen
  have hrows : ∀ ρ' : Den, VRs ρ' (rep (ofV z).cells len) ((Array.range (len * s)).map fun i => z.cells[i % z.cells.size]!) := fun ρ' => rep_vrs (ofV_cells ρ' z) len (len * s) (by rw [hzs])
  have hfill : ∀ ρ', ρ.Le ρ' → ∃ cs', Instr.fill (fun i => some (i * s, s)) ((Array.range (len * s)).map fun i => z.cells[i % z.cells.size]!) (ps.toList.map fun p => (p.1, a.eval p.2)) = some cs' ∧ VRs ρ' l cs' := by
    intro ρ' hle
    obtain ⟨cs', g1, g2, _⟩ := fillL_spec (ρ := ρ') (fun i => some (Nat.mul i s, s)) (fun i => some (i * s, s)) (fun i q hq => hq) _ (ps.toList.map fun p => (p.1, a.eval p.2)) _ _ l (by simp) (parts_rel ps.toList fun x hx'' => (hx' x hx'').mono hle) (hrows ρ') hl
    exact ⟨cs', g1, g2⟩
  obtain ⟨cs', g1, g2⟩ := hfill ρ (.refl ρ)
  refine ⟨.cells cs' e (0, 0), fun b => .slice (some ⟨b, 0, none⟩) len len, ?_, fun ρ' l' b hle hl' => ⟨or_cells (c := cc) ?_ hc rfl, .sl l' b 0 len len hl' (Nat.le_refl _)⟩⟩
  · have hparts : (ps.map fun x => (x.1, a.eval x.2)).toList = ps.toList.map fun p => (p.1, a.eval p.2) := by simp
    have hbig : ¬ (len * s > 2 ^ 24) := by
      have : (2 : Nat) ^ 24 = 16777216 := by decide
      omega
    have hrun : (Instr.buildSlice ty len (ps.map fun x => (x.1, a.eval x.2))).run E.P w = .ok (.slice (some ⟨w.heap.size, 0, none⟩) len len) { w with heap := w.heap.push (.cells cs' e (0, 0)) } := by
      simp only [Instr.buildSlice, Sem.run_bind, run_underlying h1, Result.andThen_ok, (size_some h2 w).1]
      rw [if_neg hbig]
      by_cases h0 : len * s = 0
      · have e0 : ∀ f : Nat → Value, (Array.range (len * s)).map f = #[] := by
          intro f
          rw [h0]
          simp [Array.range_zero']
        have g1' := g1
        rw [e0] at g1'
        rw [if_pos h0]
        simp only [Sem.run_bind, Sem.run_pure, Result.andThen_ok, e0, hparts, g1', newRow, run_newObj]
      · rw [if_neg h0]
        simp [g1, newRow, zero_run hz w]
    simp only [execOp, ho, Sem.run_bind, hrun, Result.andThen_ok, Sem.run_pure]
  · obtain ⟨cs'', g3, g4⟩ := hfill ρ' hle
    rw [g1] at g3
    cases g3
    exact g4

theorem newF_ok {op : Op} (hr : newF E op t k = some r) : ∃ ob mk, k ob mk = some r ∧ NewOK E op t ob mk := by
  cases op with
  | alloc e => exact allocF_ok hr
  | box e x => exact boxF_ok hr
  | buildSlice ty len ps => exact buildSliceF_ok hr
  | makeMap ty q => exact makeMapF_ok hr
  | makeSlice ty l c => exact makeSliceF_ok hr
  | _ => cases hr
end
end Go.Proofs.YtgedmmmgkfehjaaGreatDoor
