/- Appending: what the reckoner says of it. -/
import Derived.Test.YtgedmmmgkfehjaaGreatDoorZe2
namespace Go.Proofs.YtgedmmmgkfehjaaGreatDoor

theorem Post.drewL {ρ ρ' : Den} {h h' : Hf} {n n' : Nat} {w w' : World} (p : Post ρ h n w.drew ρ' h' n' w') : Post ρ h n w ρ' h' n' w' :=
  ⟨p.le, p.rel, p.mono, p.pend, p.old, p.fresh, p.frame, p.size, p.os, p.tape, p.output⟩

/-- the row at l goes on as the row at n, in the same block -/
theorem Post.move {ρ : Den} {h h' : Hf} {n : Nat} {w w' : World} {l b : Nat} {o o' : AO} {obj : Obj} (hr : Rel ρ h n w) (hl : ρ.at_ l = some b) (ho : h l = some o) (h1 : h' n = some o') (h0 : h' l = none) (h2 : ∀ x, x ≠ n → x ≠ l → h' x = h x)
    (g1 : w'.heap[b]? = some obj) (g2 : OR (ρ.put n b (ρ.cap l)) n o' obj) (g3 : ∀ k, k ≠ b → w'.heap[k]? = w.heap[k]?) (g4 : w'.heap.size = w.heap.size) (g5 : w'.os = w.os) (g6 : w'.tape = w.tape) (g7 : w'.output = w.output) :
    Post ρ h n w (ρ.put n b (ρ.cap l)) h' (n + 1) w' := by
  have hn : ρ.at_ n = none := by
    cases hq : ρ.at_ n with
    | none => rfl
    | some b => have := (hr.dom n b hq).2.2; omega
  have hle : ρ.Le (ρ.put n b (ρ.cap l)) := Den.put_le hn
  have hdl := hr.dom l b hl
  have hp : ∀ x y, (ρ.put n b (ρ.cap l)).at_ x = some y → (x = n ∧ y = b) ∨ (x ≠ n ∧ ρ.at_ x = some y) := by
    intro x y hx
    by_cases hxn : x = n
    · subst hxn
      rw [Den.put_same] at hx
      cases hx
      exact .inl ⟨rfl, rfl⟩
    · simp only [Den.put, if_neg hxn] at hx
      exact .inr ⟨hxn, hx⟩
  have hg : ∀ x p, x ≠ n → h' x = some p → x ≠ l ∧ h x = some p := by
    intro x p hx hxp
    have hxl : x ≠ l := by intro e; subst e; rw [h0] at hxp; cases hxp
    exact ⟨hxl, by rw [← h2 x hx hxl]; exact hxp⟩
  refine ⟨hle, ⟨by rw [g4]; exact hr.floor, ?_, ?_, ?_⟩, by omega, ?_, ?_, ?_, ?_, by omega, g5, g6, g7⟩
  · intro x y hx
    rw [g4]
    rcases hp x y hx with ⟨rfl, rfl⟩ | ⟨_, hx⟩
    · exact ⟨hdl.1, hdl.2.1, by omega⟩
    · have := hr.dom x y hx
      exact ⟨this.1, this.2.1, by omega⟩
  · intro x q y hx hy
    rcases hp x y hy with ⟨rfl, rfl⟩ | ⟨hxn, hy2⟩
    · rw [h1] at hx
      cases hx
      exact ⟨obj, g1, g2⟩
    · obtain ⟨hxl, hx'⟩ := hg x q hxn hx
      obtain ⟨z, hz, hor⟩ := hr.obj x q y hx' hy2
      refine ⟨z, ?_, OR.mono hle hy2 hor⟩
      rw [g3 y ?_]
      · exact hz
      · intro e
        subst e
        exact hxl (hr.inj x l y _ _ hy2 hl hx' ho)
  · intro x x' y q q' hx hx' hq hq'
    rcases hp x y hx with ⟨rfl, rfl⟩ | ⟨hxn, hx2⟩ <;> rcases hp x' _ hx' with ⟨e1, e2⟩ | ⟨hxn', hx2'⟩
    · exact e1.symm
    · obtain ⟨hxl', hq''⟩ := hg x' q' hxn' hq'
      exact absurd (hr.inj x' l _ _ _ hx2' hl hq'' ho) hxl'
    · subst e1
      subst e2
      obtain ⟨hxl, hq''⟩ := hg x q hxn hq
      exact absurd (hr.inj x l _ _ _ hx2 hl hq'' ho) hxl
    · exact hr.inj x x' y _ _ hx2 hx2' (hg x q hxn hq).2 (hg x' q' hxn' hq').2
  · intro x hx hnone
    have hxn : x ≠ n := by omega
    have hxl : x ≠ l := by intro e; subst e; rw [hl] at hnone; cases hnone
    exact ⟨by simp [Den.put, hxn, hnone], h2 x hxn hxl⟩
  · intro x hx hnone
    have hxn : x ≠ n := by omega
    by_cases hxl : x = l
    · subst hxl; exact h0
    · rw [h2 x hxn hxl]; exact hnone
  · intro x y hx
    rcases hp x y hx with ⟨rfl, rfl⟩ | ⟨_, hx⟩
    · exact .inr (.inr ⟨l, o, ho, hl⟩)
    · exact .inl hx
  · intro k hk hno
    exact g3 k fun e => by subst e; exact hno l o ho hl

section
variable {β : Type} {E : Env} {h : Hp}

theorem cell_heap {w w' : World} (he : w'.heap = w.heap) (a : Addr) : w'.cell? a = w.cell? a := by
  unfold World.cell?
  rw [he]
theorem first_cells {P : Program} {w : World} {b o z m n c : Nat} {us : List Value} (hlen : us.length = m * z) (hc : ∀ j u, us[j]? = some u → w.cell? ⟨b, o + j, none⟩ = some u) :
    ∀ w' : World, w'.heap = w.heap → (Builtin.firstCells z m (.slice (some ⟨b, o, none⟩) n c)).run P w' = .ok us.toArray w' := by
  intro w' he
  have := run_loadCells_list (P := P) w' ⟨b, o, none⟩ us (fun j v hv => by rw [Addr.add_mid, cell_heap he]; exact hc j v hv)
  rw [hlen] at this
  exact this

theorem moreK_ok {z : Nat} {x : AV} {k : Nat → List AV → R β} {r : β} (hr : moreK h z x k = some r) : ∃ cnt vs, k cnt vs = some r ∧ vs.length = cnt * z ∧
    ∀ (ρ : Den) (n : Nat) (w : World) (u : Value), Rel ρ h.get n w → VR ρ x u → ∃ new, More E.P w z u cnt new ∧ VRs ρ vs new := by
  unfold moreK at hr
  cases x <;> simp only [reduceCtorEq, ob_some, gd_some] at hr
  · rename_i tr o m
    obtain ⟨hz, l, hl, hr⟩ := hr
    rw [Nat.beq_eq] at hz
    subst hz
    have hlen := (bytesOf_spec _ _ _ _ hl).1
    refine ⟨m, _, hr, by simp [hlen], fun ρ n w u hrel hx => ?_⟩
    have hx' := hx
    cases hx
    rename_i s hget hn
    have hsz : s.size = m := by rw [← hn, Array.length_toList]; rfl
    have hb := str_bytes hl hx'
    refine ⟨s.data.map fun b => .int .u8 b.toNat, ⟨fun w' _ => by simp [Builtin.lenOf, hsz], fun w' _ => ?_⟩, ?_⟩
    · have he : s.extract 0 m = s := by
        apply ByteArray.ext
        rw [ByteArray.data_extract, ← hsz]
        show s.data.extract 0 s.data.size = s.data
        simp
      simp [Builtin.firstCells, he]
    · refine ⟨by rw [hb]; simp, fun i x u hxi hui => ?_⟩
      rw [hb, List.map_map, List.getElem?_map] at hxi
      rw [Array.getElem?_map] at hui
      rw [Array.getElem?_toList] at hxi
      cases hd : s.data[i]? with
      | none => rw [hd] at hxi; cases hxi
      | some y =>
        rw [hd] at hxi hui
        cases hxi
        cases hui
        exact .int _ _
  · rename_i l o m c
    obtain ⟨b, hb, vs, hvs, hr⟩ := hr
    have hlen := (readN_spec _ _ _ _ hvs).1
    refine ⟨m, vs, hr, hlen, fun ρ n w u hrel hx => ?_⟩
    obtain ⟨bl, cap, hbl, rfl, _⟩ := sl_inv hx
    obtain ⟨us, g1, g2, g3⟩ := readN_cells hrel hb hbl hvs
    exact ⟨us.toArray, ⟨fun w' _ => by simp [Builtin.lenOf], first_cells g1 g2⟩, g3⟩
  · refine ⟨0, [], hr, by simp, fun ρ n w u hrel hx => ?_⟩
    cases hx
    exact ⟨#[], ⟨fun w' _ => by simp [Builtin.lenOf], fun w' _ => by simp [Builtin.firstCells]⟩, VRs.nil ρ⟩

theorem VRs.append {ρ : Den} {a b : List AV} {us vs : Array Value} (h : VRs ρ a us) (h' : VRs ρ b vs) : VRs ρ (a ++ b) (us ++ vs) := by
  refine ⟨by simp [h.1, h'.1], fun i x u hx hu => ?_⟩
  by_cases hi : i < a.length
  · rw [List.getElem?_append_left hi] at hx
    rw [Array.getElem?_append_left (by have := h.1; omega)] at hu
    exact h.2 i x u hx hu
  · rw [List.getElem?_append_right (by omega)] at hx
    rw [Array.getElem?_append_right (by have := h.1; omega), ← h.1] at hu
    exact h'.2 _ x u hx hu

theorem rowK_some {n z len : Nat} {e : TypeId} {vs : List AV} {k : AV → Hp → Nat → R β} {r : β} (hr : rowK h n z e len vs k = some r) :
    ∃ c h', k (.sl n 0 len none) h' (n + 1) = some r ∧ (∀ i, c.get i = vs[i]?) ∧ ∀ m, h'.get m = if m = n then some (.row c vs.length z e) else h.get m := by
  unfold rowK at hr
  obtain ⟨c, hr, hc⟩ := fillK_nil _ _ _ hr
  simp only [forceN_eq, lenL_eq] at hr
  obtain ⟨h', hr, hh⟩ := Tr.setK_spec _ _ _ _ _ hr
  exact ⟨c, h', hr, hc, hh⟩

/-- the cells of a new row -/
theorem or_row {ρ : Den} {n z : Nat} {e : TypeId} {vs : List AV} {us : Array Value} {c : Tr AV} {rest : Array Value} (hv : VRs ρ vs us) (hc : ∀ i, c.get i = vs[i]?) (hz : 0 < z) (hsz : us.size + rest.size = ρ.cap n * z) :
    OR ρ n (.row c vs.length z e) (.cells (us ++ rest) e (0, 0)) := by
  refine ⟨us ++ rest, rfl, by simpa using hsz, by have := hv.1; simp; omega, hz, fun i v hi hg => ?_⟩
  rw [hc] at hg
  obtain ⟨u, hu, hvr⟩ := hv.get hg
  refine ⟨u, ?_, hvr⟩
  rw [Array.getElem?_append_left (by have := hv.1; omega)]
  exact hu
end
end Go.Proofs.YtgedmmmgkfehjaaGreatDoor
