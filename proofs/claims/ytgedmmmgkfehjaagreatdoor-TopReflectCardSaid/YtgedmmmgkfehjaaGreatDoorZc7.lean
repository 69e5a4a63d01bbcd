/- Literals, lookups; what the reckoner says of whatever operation turns nothing. -/
import Derived.Test.YtgedmmmgkfehjaaGreatDoorZc6
namespace Go.Proofs.YtgedmmmgkfehjaaGreatDoor

theorem vr_cells {ρ : Den} {v : AV} {u : Value} (hv : VR ρ v u) (hk : v.known = true) : VRs ρ v.cells u.cells := by
  have one : ∀ (x : AV) (y : Value), VR ρ x y → VRs ρ [x] #[y] := fun x y h => ⟨rfl, fun i a b ha hb => by
    cases i with
    | zero => simp at ha hb; subst ha; subst hb; exact h
    | succ i => simp at ha⟩
  cases hv with
  | bad u => cases hk
  | agg xs us h1 h2 => exact ⟨h1, h2⟩
  | _ => exact one _ _ (by constructor <;> assumption)

theorem VRs.set {ρ : Den} {l : List AV} {cs : Array Value} (h : VRs ρ l cs) {x : AV} {u : Value} (hx : VR ρ x u) (i : Nat) : VRs ρ (l.set i x) (cs.setIfInBounds i u) := by
  refine ⟨by simp [h.1], fun j a b ha hb => ?_⟩
  rw [List.getElem?_set] at ha
  rw [Array.getElem?_setIfInBounds] at hb
  by_cases hij : i = j
  · subst hij
    simp only [if_true] at ha hb
    split at ha
    · split at hb
      · cases ha; cases hb; exact hx
      · cases hb
    · cases ha
  · rw [if_neg hij] at ha hb
    exact h.2 j a b ha hb
theorem putL_spec {ρ : Den} (off : Nat) : ∀ (xs : List AV) (us : List Value) (n : Nat) (l : List AV) (cs : Array Value), VRs ρ xs us.toArray → VRs ρ l cs →
    VRs ρ (putL xs l (off + n)) ((us.zipIdx n).foldl (fun cs (c, j) => cs.setIfInBounds (off + j) c) cs)
  | [], us, n, l, cs, h, hl => by
    have : us = [] := by
      have := h.1
      simp at this
      exact List.length_eq_zero_iff.1 this.symm
    subst this
    exact hl
  | x :: xs, us, n, l, cs, h, hl => by
    cases us with
    | nil => have := h.1; simp at this
    | cons u us =>
      have hx : VR ρ x u := h.2 0 x u (by simp) (by simp)
      have hr : VRs ρ xs us.toArray := ⟨by have := h.1; simpa using this, fun i a b ha hb => h.2 (i + 1) a b (by simpa using ha) (by simpa using hb)⟩
      have ih := putL_spec off xs us (n + 1) (l.set (off + n) x) (cs.setIfInBounds (off + n) u) hr (hl.set hx _)
      have e : putL (x :: xs) l (off + n) = putL xs (l.set (off + n) x) (off + (n + 1)) := rfl
      rw [e]
      simpa [List.zipIdx_cons] using ih
theorem fillL_spec {ρ : Den} (pl pl' : Nat → Option (Nat × Nat)) (hpl : ∀ i q, pl i = some q → pl' i = some q) : ∀ (vs : List (Nat × AV)) (us : List (Nat × Value)) (l : List AV) (cs : Array Value) (l' : List AV),
    vs.length = us.length → (∀ (i : Nat) (x : Nat × AV) (u : Nat × Value), vs[i]? = some x → us[i]? = some u → x.1 = u.1 ∧ VR ρ x.2 u.2) → VRs ρ l cs → fillL pl vs l = some l' →
    ∃ cs', Instr.fill pl' cs us = some cs' ∧ VRs ρ l' cs' ∧ l'.length = l.length
  | [], us, l, cs, l', hlen, _, hl, hf => by
    have : us = [] := List.length_eq_zero_iff.1 (by simpa using hlen.symm)
    subst this
    have : some l = some l' := hf
    cases this
    exact ⟨cs, rfl, hl, rfl⟩
  | v :: vs, us, l, cs, l', hlen, hr, hl, hf => by
    cases us with
    | nil => simp at hlen
    | cons u us =>
      obtain ⟨h1, h2⟩ := hr 0 v u (by simp) (by simp)
      have hf' : (gd v.2.known <| ob (pl v.1) fun q => gd (Nat.beq (lenL v.2.cells) q.2) <| gd (Nat.ble (Nat.add q.1 (lenL v.2.cells)) (lenL l)) <| fillL pl vs (putL v.2.cells l q.1)) = some l' := hf
      simp only [gd_some, ob_some, lenL_eq] at hf'
      obtain ⟨hk, q, hq, h3, h4, hf'⟩ := hf'
      have hc := vr_cells h2 hk
      rw [Nat.beq_eq] at h3
      have h4' := Nat.le_of_ble_eq_true h4
      have h4'' : q.1 + v.2.cells.length ≤ l.length := h4'
      have hput := putL_spec (ρ := ρ) q.1 v.2.cells u.2.cells.toList 0 l cs (by simpa using hc) hl
      obtain ⟨cs', h5, h6, h7⟩ := fillL_spec pl pl' hpl vs us (putL v.2.cells l q.1) _ l' (by simpa using hlen) (fun i x y hx hy => hr (i + 1) x y (by simpa using hx) (by simpa using hy)) hput hf'
      refine ⟨cs', ?_, h6, ?_⟩
      · obtain ⟨ui, uv⟩ := u
        simp only at h1 hc h5
        simp only [Instr.fill]
        rw [← h1, hpl _ _ hq]
        have e1 : ¬ ((uv.cells.size ≠ q.2 || decide (q.1 + uv.cells.size > cs.size)) = true) := by
          have := hc.1
          have := hl.1
          simp
          omega
        simp only
        rw [if_neg (by simpa using e1)]
        have e2 : uv.cells.zipIdx.foldl (fun cs x => cs.setIfInBounds (q.1 + x.2) x.1) cs = (uv.cells.toList.zipIdx 0).foldl (fun cs x => cs.setIfInBounds (q.1 + x.2) x.1) cs := by
          rw [← Array.foldl_toList, Array.toList_zipIdx]
        rw [← h5]
        congr 1
      · rw [h7]
        have : ∀ (xs l : List AV) (o : Nat), (putL xs l o).length = l.length := by
          intro xs
          induction xs with
          | nil => intro l o; rfl
          | cons x xs ih =>
            intro l o
            have e : putL (x :: xs) l o = putL xs (l.set o x) (Nat.succ o) := rfl
            rw [e, ih, List.length_set]
        exact this _ _ _

section
variable {β : Type} {E : Env} {t : Tm} {h : Hp} {k : AV → R β} {r : β}

theorem zero_run {ty : TypeId} {z : Value} (hz : E.zero ty = some z) (w : World) : (zeroValue ty).run E.P w = .ok z w := by
  unfold Env.zero at hz
  cases hi : E.P.info? ty with
  | none => simp [hi] at hz
  | some i =>
    simp [hi] at hz
    simp [zeroValue, typeInfo, hi, hz]

/-- the parts of a literal -/
theorem parts_rel {ρ : Den} {a : Act} (ps : List (Nat × Operand)) (hx : ∀ x, x ∈ ps.map (·.2) → VR ρ (ev t x) (a.eval x)) : ∀ (i : Nat) (x : Nat × AV) (u : Nat × Value),
    (ps.map fun p => (p.1, ev t p.2))[i]? = some x → (ps.map fun p => (p.1, a.eval p.2))[i]? = some u → x.1 = u.1 ∧ VR ρ x.2 u.2 := by
  intro i x u h1 h2
  rw [List.getElem?_map] at h1 h2
  cases hp : ps[i]? with
  | none => simp [hp] at h1
  | some p =>
    simp [hp] at h1 h2
    subst h1
    subst h2
    exact ⟨rfl, hx _ (List.mem_map.2 ⟨p, List.mem_of_getElem? hp, rfl⟩)⟩

theorem mapM_places {P : Program} {w : World} : ∀ (fs : List Field), (∀ f ∈ fs, ∃ m, (sizeOf f.type).run P w = .ok m w) →
    ∃ qs : List (Nat × Nat), (fs.mapM fun (f : Field) => (do pure (f.offset, ← sizeOf f.type) : Sem (Nat × Nat))).run P w = .ok qs w ∧ qs.length = fs.length ∧ ∀ (i : Nat) (f : Field), fs[i]? = some f → ∃ m, (sizeOf f.type).run P w = .ok m w ∧ qs[i]? = some (f.offset, m)
  | [], _ => ⟨[], by simp, rfl, fun i f h => by simp at h⟩
  | f :: fs, h => by
    obtain ⟨m, hm⟩ := h f (by simp)
    obtain ⟨qs, h1, h2, h3⟩ := mapM_places fs fun g hg => h g (by simp [hg])
    refine ⟨(f.offset, m) :: qs, ?_, by simp [h2], ?_⟩
    · simp only [List.mapM_cons, Sem.run_bind, hm, Result.andThen_ok, Sem.run_pure, h1]
    · intro i g hg
      cases i with
      | zero => simp at hg; subst hg; exact ⟨m, hm, by simp⟩
      | succ i => simpa using h3 i g (by simpa using hg)

theorem buildF_ok {ty : TypeId} {ps : Array (Nat × Operand)} (hr : buildF E ty ps t h k = some r) : ∃ v, k v = some r ∧ PureOK E (.build ty ps) t h v := by
  unfold buildF at hr
  simp only [gd_some, ob_some, evPs_eq, forceL_eq] at hr
  obtain ⟨hok, z, hz, l, hl, hr⟩ := hr
  refine ⟨_, hr, fun ρ w a n o ho hsig hrel hx => ?_⟩
  have hx' : ∀ x, x ∈ ps.toList.map (·.2) → VR ρ (ev t x) (a.eval x) := fun x hm => hx x (by simpa [Op.operands] using hm)
  have hrel' := parts_rel ps.toList hx'
  have hfill : ∀ pl' : Nat → Option (Nat × Nat), (∀ i q, placeT E ty i = some q → pl' i = some q) → ∃ cs', Instr.fill pl' z.cells (ps.toList.map fun p => (p.1, a.eval p.2)) = some cs' ∧ VRs ρ l cs' := by
    intro pl' hpl
    obtain ⟨cs', h1, h2, _⟩ := fillL_spec (ρ := ρ) (placeT E ty) pl' hpl _ (ps.toList.map fun p => (p.1, a.eval p.2)) _ z.cells l (by simp) hrel' (ofV_cells ρ z) hl
    exact ⟨cs', h1, h2⟩
  have hparts : (ps.map fun x => (x.1, a.eval x.2)).toList = ps.toList.map fun p => (p.1, a.eval p.2) := by simp
  have hzr := zero_run hz w
  unfold structOK Env.desc at hok
  split at hok
  · rename_i fs hfs
    obtain ⟨qs, h1, h2, h3⟩ := mapM_places (P := E.P) (w := w) fs.toList (by
      intro f hf
      have := List.all_eq_true.1 hok f hf
      cases hs : E.size f.type with
      | none => simp [hs] at this
      | some m => exact ⟨m, (size_some hs w).1⟩)
    obtain ⟨cs', h4, h5⟩ := hfill (fun i => qs.toArray[i]?) (by
      intro i q hq
      unfold placeT Env.desc at hq
      simp only [hfs] at hq
      cases hf : fs.toList[i]? with
      | none => simp [hf] at hq
      | some f =>
        obtain ⟨m, hm1, hm2⟩ := h3 i f hf
        simp [hf] at hq
        obtain ⟨m', hm', rfl⟩ := hq
        have := (size_some hm' w).1
        rw [hm1] at this
        cases this
        simpa using hm2)
    refine ⟨.agg cs', ?_, .agg _ _ h5.1 h5.2⟩
    have hm : (fs.mapM fun (f : Field) => (do pure (f.offset, ← sizeOf f.type) : Sem (Nat × Nat))).run E.P w = .ok qs.toArray w := by
      rw [Array.mapM_eq_mapM_toList, Sem.run_map, h1]
      rfl
    simp only [execOp, ho, Instr.build, Sem.run_bind, hzr, Result.andThen_ok, run_underlying hfs, hm, hparts, h4, Sem.run_pure]
  · rename_i n e hfs
    cases hs : E.size e with
    | none => simp [hs] at hok
    | some m =>
      obtain ⟨cs', h4, h5⟩ := hfill (fun i => some (i * m, m)) (by
        intro i q hq
        unfold placeT Env.desc at hq
        simpa [hfs, hs] using hq)
      refine ⟨.agg cs', ?_, .agg _ _ h5.1 h5.2⟩
      simp only [execOp, ho, Instr.build, Sem.run_bind, hzr, Result.andThen_ok, run_underlying hfs, (size_some hs w).1, hparts, h4, Sem.run_pure]
  · cases hok
end
end Go.Proofs.YtgedmmmgkfehjaaGreatDoor
