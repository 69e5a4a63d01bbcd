/- Operations that write: stores, and what is put into a map. -/
import Derived.Test.YtgedmmmgkfehjaaGreatDoorZd
namespace Go.Proofs.YtgedmmmgkfehjaaGreatDoor

/-- what is said of an operation that writes -/
def WriteOK (E : Env) (op : Op) (t : Tm) (h : Hp) (n : Nat) (v : AV) (h' : Hp) (n' : Nat) : Prop :=
  ∀ (ρ : Den) (w : World) (a : Act) (o : Oper), o.op = op → SigOK E ρ → Rel ρ h.get n w → (∀ x, x ∈ op.operands → VR ρ (ev t x) (a.eval x)) →
    ∃ (u : Value) (w' : World) (ρ' : Den), ((execOp a.eval o).run E.P w = .ok (.value u) w' ∨ ((execOp a.eval o).run E.P w = .ok .skip w' ∧ u = undef)) ∧ Post ρ h.get n w ρ' h'.get n' w' ∧ VR ρ' v u

/-- one object turned -/
theorem Post.turn {ρ : Den} {h h' : Hf} {n : Nat} {w w' : World} {l b : Nat} {o o' : AO} {obj : Obj} (hr : Rel ρ h n w) (hl : ρ.at_ l = some b) (ho : h l = some o) (h1 : h' l = some o') (h2 : ∀ x, x ≠ l → h' x = h x)
    (g1 : w'.heap[b]? = some obj) (g2 : OR ρ l o' obj) (g3 : ∀ k, k ≠ b → w'.heap[k]? = w.heap[k]?) (g4 : w'.heap.size = w.heap.size) (g5 : w'.os = w.os) (g6 : w'.tape = w.tape) (g7 : w'.output = w.output) :
    Post ρ h n w ρ h' n w' := by
  have hrel : Rel ρ h' n w' := by
    refine ⟨by rw [g4]; exact hr.floor, fun x y hx => by rw [g4]; exact hr.dom x y hx, ?_, ?_⟩
    · intro x q y hx hy
      by_cases hxl : x = l
      · subst hxl
        rw [hl] at hy
        cases hy
        rw [h1] at hx
        cases hx
        exact ⟨obj, g1, g2⟩
      · rw [h2 x hxl] at hx
        obtain ⟨z, hz, hor⟩ := hr.obj x q y hx hy
        refine ⟨z, ?_, hor⟩
        rw [g3 y ?_]
        · exact hz
        · intro he
          subst he
          exact hxl (hr.inj x l y _ _ hy hl hx ho)
    · intro x x' y q q' hx hx' hq hq'
      have g : ∀ z p, h' z = some p → ∃ p', h z = some p' := by
        intro z p hz
        by_cases hzl : z = l
        · subst hzl; exact ⟨o, ho⟩
        · rw [h2 z hzl] at hz; exact ⟨p, hz⟩
      obtain ⟨p, hp⟩ := g _ _ hq
      obtain ⟨p', hp'⟩ := g _ _ hq'
      exact hr.inj x x' y _ _ hx hx' hp hp'
  refine ⟨.refl ρ, hrel, Nat.le_refl _, ?_, ?_, fun _ _ hx => .inl hx, ?_, by omega, g5, g6, g7⟩
  · intro x hx hnone
    have : x ≠ l := by intro e; subst e; rw [hl] at hnone; cases hnone
    exact ⟨hnone, h2 x this⟩
  · intro x hx hnone
    have : x ≠ l := by intro e; subst e; rw [ho] at hnone; cases hnone
    rw [h2 x this]
    exact hnone
  · intro k hk hno
    exact g3 k fun e => by subst e; exact hno l o ho hl

theorem one_cell {ρ : Den} {v : AV} {u : Value} (h : VR ρ v u) (h1 : v.one = true) : u.oneCell' = true := by
  cases h <;> first | rfl | cases h1
theorem known_of_one {v : AV} (h : ∀ x ∈ v.cells, x.one = true) : v.known = true := by
  cases v <;> first | rfl | (have := h _ (by simp [AV.cells]; rfl); cases this)

/-- cells with others in their middle -/
theorem mid_get (cs us : List Value) (o i : Nat) (h : o + us.length ≤ cs.length) : (cs.take o ++ us ++ cs.drop (o + us.length))[i]? = if o ≤ i ∧ i < o + us.length then us[i - o]? else cs[i]? := by
  by_cases h1 : i < o
  · rw [List.append_assoc, List.getElem?_append_left (by simp; omega), List.getElem?_take, if_pos h1, if_neg (by omega)]
  · by_cases h2 : i < o + us.length
    · rw [List.append_assoc, List.getElem?_append_right (by simp; omega), List.getElem?_append_left (by simp; omega), if_pos (by omega)]
      congr 1
      simp
      omega
    · rw [List.getElem?_append_right (by simp; omega), if_neg (by omega), List.getElem?_drop]
      congr 1
      simp
      omega

section
variable {β : Type} {E : Env}

/-- the cells of an object from o on -/
def AO.after (b b' : AO) (o : Nat) (vs : List AV) : Prop :=
  match b, b' with
  | .cells c n e, .cells c' n' e' => n' = n ∧ e' = e ∧ o + vs.length ≤ n ∧ ∀ m, c'.get m = if o ≤ m ∧ m < o + vs.length then vs[m - o]? else c.get m
  | .row c n z e, .row c' n' z' e' => n' = n ∧ z' = z ∧ e' = e ∧ o + vs.length ≤ n ∧ ∀ m, c'.get m = if o ≤ m ∧ m < o + vs.length then vs[m - o]? else c.get m
  | _, _ => False

theorem store_some {h : Hp} {l o : Nat} {vs : List AV} {k : Hp → R β} {r : β} (hr : store h l o vs k = some r) :
    ∃ h' b b', k h' = some r ∧ (∀ v ∈ vs, v.one = true) ∧ h.get l = some b ∧ (∀ m, h'.get m = if m = l then some b' else h.get m) ∧ b.after b' o vs := by
  unfold store at hr
  simp only [gd_some, ob_some] at hr
  obtain ⟨h1, b, hb, hr⟩ := hr
  have h1' := (allOne_iff vs).1 h1
  cases b with
  | cells c n e =>
    simp only [gd_some, lenL_eq] at hr
    obtain ⟨h2, hr⟩ := hr
    obtain ⟨c', hr, hc⟩ := fillK_spec _ _ _ _ _ hr
    obtain ⟨h', hr, hh⟩ := Tr.setK_spec _ _ _ _ _ hr
    exact ⟨h', _, .cells c' n e, hr, h1', hb, hh, rfl, rfl, Nat.le_of_ble_eq_true h2, hc⟩
  | row c n z e =>
    simp only [gd_some, lenL_eq] at hr
    obtain ⟨h2, hr⟩ := hr
    obtain ⟨c', hr, hc⟩ := fillK_spec _ _ _ _ _ hr
    obtain ⟨h', hr, hh⟩ := Tr.setK_spec _ _ _ _ _ hr
    exact ⟨h', _, .row c' n z e, hr, h1', hb, hh, rfl, rfl, rfl, Nat.le_of_ble_eq_true h2, hc⟩
  | map es => cases hr

/-- the store in the world -/
theorem store_post {P : Program} {ρ : Den} {h h' : Hf} {n l o bl : Nat} {w : World} {b b' : AO} {vs : List AV} {us : List Value} (hr : Rel ρ h n w) (hl : ρ.at_ l = some bl) (hb : h l = some b)
    (hh : ∀ m, h' m = if m = l then some b' else h m) (ha : b.after b' o vs) (h1 : ∀ v ∈ vs, v.one = true) (hv : VRs ρ vs us.toArray) :
    ∃ w', (storeCells ⟨bl, o, none⟩ us).run P w = .ok () w' ∧ Post ρ h n w ρ h' n w' := by
  have hlen : vs.length = us.length := by simpa using hv.1
  have hone : ∀ u ∈ us, u.oneCell' = true := by
    intro u hu
    obtain ⟨i, hi, rfl⟩ := List.mem_iff_getElem.1 hu
    have hi' : i < vs.length := by omega
    exact one_cell (hv.2 i vs[i] us[i] (List.getElem?_eq_getElem hi') (by simp [hi])) (h1 _ (List.getElem_mem hi'))
  have fin : ∀ (cs : Array Value) (e : TypeId), w.heap[bl]? = some (.cells cs e (0, 0)) → o + us.length ≤ cs.size → OR ρ l b' (.cells (cs.toList.take o ++ us ++ cs.toList.drop (o + us.length)).toArray e (0, 0)) →
      ∃ w', (storeCells ⟨bl, o, none⟩ us).run P w = .ok () w' ∧ Post ρ h n w ρ h' n w' := by
    intro cs e hx hsz hor
    refine ⟨_, run_storeCells_at P bl o e us 0 cs w hx (by simpa using hsz) hone, ?_⟩
    simp only [Nat.add_zero]
    exact Post.turn hr hl hb (by rw [hh, if_pos rfl]) (fun x hx' => by rw [hh, if_neg hx']) (setRow_heap w bl cs _ e (0, 0) hx) hor (fun k hk => setRow_other w bl k _ hk) (by simp) rfl rfl rfl
  have cellsOf : ∀ (cs : Array Value) (c c' : Tr AV) (m : Nat), o + vs.length ≤ m → m ≤ cs.size → (∀ q, c'.get q = if o ≤ q ∧ q < o + vs.length then vs[q - o]? else c.get q) →
      (∀ (i : Nat) (v : AV), i < m → c.get i = some v → ∃ u, cs[i]? = some u ∧ VR ρ v u) →
      ∀ (i : Nat) (v : AV), i < m → c'.get i = some v → ∃ u, (cs.toList.take o ++ us ++ cs.toList.drop (o + us.length)).toArray[i]? = some u ∧ VR ρ v u := by
    intro cs c c' m g1 g2 g3 g4 i v hi hg
    rw [List.getElem?_toArray, mid_get _ _ _ _ (by simp; omega), ← hlen]
    rw [g3] at hg
    split at hg
    · rename_i hin
      rw [if_pos hin]
      obtain ⟨u, hu, hvr⟩ := hv.get hg
      exact ⟨u, by simpa using hu, hvr⟩
    · rename_i hin
      rw [if_neg hin]
      simpa using g4 i v hi hg
  obtain ⟨x, hx, hor⟩ := hr.obj l b bl hb hl
  cases b with
  | cells c m e =>
    cases b' with
    | cells c' m' e' =>
      obtain ⟨rfl, rfl, g1, g2⟩ := ha
      obtain ⟨cs, rfl, g3, g4⟩ := hor
      exact fin cs _ hx (by omega) ⟨_, rfl, by simp; omega, cellsOf cs c c' _ g1 (by omega) g2 g4⟩
    | row c' m' z e => exact ha.elim
    | map es => exact ha.elim
  | row c m z e =>
    cases b' with
    | row c' m' z' e' =>
      obtain ⟨rfl, rfl, rfl, g1, g2⟩ := ha
      obtain ⟨cs, rfl, g3, g5, g6, g4⟩ := hor
      exact fin cs _ hx (by omega) ⟨_, rfl, by simp; omega, by simp; omega, g6, cellsOf cs c c' _ g1 (by omega) g2 g4⟩
    | cells c' m' e => exact ha.elim
    | map es => exact ha.elim
  | map es => cases b' <;> exact ha.elim

theorem storeK_some {ty : TypeId} {x y : Operand} {t : Tm} {k : Nat → Nat → List AV → R β} {r : β} (hr : storeK E ty x y t k = some r) :
    ∃ l o, ev t x = .ptr l o ∧ E.size ty = some (ev t y).cells.length ∧ k l o (ev t y).cells = some r := by
  unfold storeK at hr
  simp only [evK_eq, asPtr_some, ob_some, gd_some, lenL_eq] at hr
  obtain ⟨l, o, h1, s, h2, h3, h4⟩ := hr
  rw [Nat.beq_eq] at h3
  subst h3
  exact ⟨l, o, h1, h2, h4⟩
theorem run_storeVar {P : Program} {E : Env} (hP : P = E.P) {w w' : World} {ty : TypeId} {ad : Addr} {u : Value} {m : Nat} (hs : E.size ty = some m) (hm : u.cells.size = m) (hst : (storeCells ad u.cells.toList).run P w = .ok () w') :
    (storeVar ty ad u).run P w = .ok () w' := by
  subst hP
  have h1 := (size_some hs w).1
  simp [storeVar, h1, hm, hst]

theorem storeF_ok {ty : TypeId} {x y : Operand} {t : Tm} {h : Hp} {n : Nat} {k : AV → Hp → Nat → R β} {r : β} (hr : storeF E ty x y t h n k = some r) : ∃ v h' n', k v h' n' = some r ∧ WriteOK E (.store ty x y) t h n v h' n' := by
  unfold storeF at hr
  obtain ⟨l, o, h1, h2, hr⟩ := storeK_some hr
  obtain ⟨h', b, b', hr, h3, h4, h5, h6⟩ := store_some hr
  refine ⟨_, _, _, hr, fun ρ w a op ho hsig hrel hx => ?_⟩
  have hx1 := hx x (by simp [Op.operands])
  have hx2 := hx y (by simp [Op.operands])
  rw [h1] at hx1
  generalize hu : a.eval x = u at hx1
  cases hx1
  rename_i bl hbl
  have hc := vr_cells hx2 (known_of_one h3)
  obtain ⟨w', g1, g2⟩ := store_post (P := E.P) hrel hbl h4 h5 h6 h3 (us := (a.eval y).cells.toList) (by simpa using hc)
  refine ⟨undef, w', ρ, .inr ⟨?_, rfl⟩, g2, .undef⟩
  have := run_storeVar (E := E) rfl (ad := ⟨bl, o, none⟩) h2 hc.1.symm g1
  simp [execOp, ho, hu, Instr.storeAt, Instr.sureAddr, this]
end
end Go.Proofs.YtgedmmmgkfehjaaGreatDoor
