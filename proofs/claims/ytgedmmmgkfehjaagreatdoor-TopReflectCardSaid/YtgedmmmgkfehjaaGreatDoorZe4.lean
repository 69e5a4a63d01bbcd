/- Appending: what the reckoner says of it, case by case. -/
import Derived.Test.YtgedmmmgkfehjaaGreatDoorZe3
namespace Go.Proofs.YtgedmmmgkfehjaaGreatDoor

/-- the types of an append -/
structure AppT (E : Env) (ty tx e : TypeId) (d : TypeDesc) (i : TypeInfo) (zv : Value) (z : Nat) : Prop where
  ht : E.P.underlying ty = some (.slice e)
  hx : E.P.underlying tx = some d
  hd : (∃ q, d = .slice q) ∨ d = .string
  hi : E.P.info? e = some i
  hz : i.zero = some zv
  hs : i.size = z
  hc : zv.cells.size = z
  hb : i.bytes ≤ 1000000
  h1 : 1 ≤ z

section
variable {β : Type} {E : Env} {h : Hp}

/-- a slice that grows into a new row, of which so many cells are known -/
theorem grow_post' {ty tx oty e : TypeId} {d : TypeDesc} {i : TypeInfo} {zv : Value} {z : Nat} (T : AppT E ty tx e d i zv z) {ρ : Den} {n known : Nat} {w : World} {h' : Hp} {c : Tr AV} {base : Option Addr} {sLen sCap cnt : Nat} {xu : Value} {old new : Array Value}
    (hrel : Rel ρ h.get n w) (hm : More E.P w z xu cnt new) (hroom : ¬ sLen + cnt ≤ sCap) (hold : ∀ w' : World, w'.heap = w.heap → (Builtin.firstCells z sLen (.slice base sLen sCap)).run E.P w' = .ok old w') (hneed : sLen + cnt ≤ 1000000)
    (hsize : (old ++ new).size = (sLen + cnt) * z) (hk : known ≤ (sLen + cnt) * z) (hcell : ∀ (i : Nat) (v : AV), i < known → c.get i = some v → ∃ u, (old ++ new)[i]? = some u ∧ VR ρ v u)
    (h1 : h'.get n = some (.row c known z e)) (h2 : ∀ x, x ≠ n → h'.get x = h.get x ∨ (h'.get x = none ∧ ∃ b, ρ.at_ x = some b)) :
    ∃ u w' ρ', (Builtin.append_ #[ty, tx] oty #[.slice base sLen sCap, xu]).run E.P w = .ok u w' ∧ Post ρ h.get n w ρ' h'.get (n + 1) w' ∧ VR ρ' (.sl n 0 (sLen + cnt) none) u := by
  have hsz := T.hs
  subst hsz
  have hrun := run_app_grow (ty := oty) (base := base) T.ht T.hx T.hd T.hi T.hz hm hroom hold hneed T.hb
  have hn : ρ.at_ n = none := by
    cases hq : ρ.at_ n with
    | none => rfl
    | some b => have := (hrel.dom n b hq).2.2; omega
  have hle : ρ.Le (ρ.put n w.heap.size (grownCap w (sLen + cnt) sCap e)) := Den.put_le hn
  have hgc := grownCap_le (w := w) (need := sLen + cnt) (old := sCap) (e := e)
  have hcap : (ρ.put n w.heap.size (grownCap w (sLen + cnt) sCap e)).cap n = grownCap w (sLen + cnt) sCap e := by simp [Den.put]
  have hor : OR (ρ.put n w.heap.size (grownCap w (sLen + cnt) sCap e)) n (.row c known i.size e) (.cells (old ++ new ++ Builtin.zeroCells zv.cells (grownCap w (sLen + cnt) sCap e - (sLen + cnt))) e (0, 0)) := by
    refine ⟨_, rfl, ?_, by rw [Array.size_append, hsize]; omega, T.h1, fun j v hj hg => ?_⟩
    · rw [hcap, Array.size_append, zeroCells_size, T.hc, hsize, ← Nat.add_mul]
      congr 1
      omega
    · obtain ⟨u, hu, hvr⟩ := hcell j v hj hg
      refine ⟨u, ?_, hvr.mono hle⟩
      rw [Array.getElem?_append_left (by omega)]
      exact hu
  have hp := Post.alloc' (c := grownCap w (sLen + cnt) sCap e) hrel.drew h1 h2 hor
  refine ⟨_, _, _, hrun, Post.drewL hp, ?_⟩
  have := VR.slu n w.heap.size (sLen + cnt) (Den.put_same ρ n w.heap.size (grownCap w (sLen + cnt) sCap e)) (by rw [hcap]; exact hgc)
  rw [hcap] at this
  exact this
theorem grow_post {ty tx oty e : TypeId} {d : TypeDesc} {i : TypeInfo} {zv : Value} {z : Nat} (T : AppT E ty tx e d i zv z) {ρ : Den} {n : Nat} {w : World} {h' : Hp} {c : Tr AV} {base : Option Addr} {sLen sCap cnt : Nat} {xu : Value} {old new : Array Value} {olds vs : List AV}
    (hrel : Rel ρ h.get n w) (hm : More E.P w z xu cnt new) (hroom : ¬ sLen + cnt ≤ sCap) (hold : ∀ w' : World, w'.heap = w.heap → (Builtin.firstCells z sLen (.slice base sLen sCap)).run E.P w' = .ok old w') (hneed : sLen + cnt ≤ 1000000)
    (hvo : VRs ρ olds old) (hvn : VRs ρ vs new) (hlo : olds.length = sLen * z) (hln : vs.length = cnt * z) (hc : ∀ i, c.get i = (olds ++ vs)[i]?) (h1 : h'.get n = some (.row c (olds ++ vs).length z e)) (h2 : ∀ x, x ≠ n → h'.get x = h.get x ∨ (h'.get x = none ∧ ∃ b, ρ.at_ x = some b)) :
    ∃ u w' ρ', (Builtin.append_ #[ty, tx] oty #[.slice base sLen sCap, xu]).run E.P w = .ok u w' ∧ Post ρ h.get n w ρ' h'.get (n + 1) w' ∧ VR ρ' (.sl n 0 (sLen + cnt) none) u := by
  have e1 : (old ++ new).size = (sLen + cnt) * z := by
    have := hvo.1
    have := hvn.1
    rw [Nat.add_mul]
    simp
    omega
  refine grow_post' T hrel hm hroom hold hneed e1 (by rw [List.length_append, Nat.add_mul]; omega) (fun j v hj hg => ?_) h1 h2
  rw [hc] at hg
  exact (hvo.append hvn).get hg

/-- a slice that has room: the cells are stored -/
theorem room_post {ty tx oty e : TypeId} {d : TypeDesc} {i : TypeInfo} {zv : Value} {z : Nat} (T : AppT E ty tx e d i zv z) {ρ : Den} {n l o b sLen sCap cnt : Nat} {w : World} {h' : Hp} {ob ob' : AO} {xu : Value} {new : Array Value} {vs : List AV}
    (hrel : Rel ρ h.get n w) (hm : More E.P w z xu cnt new) (hvn : VRs ρ vs new) (hl : ρ.at_ l = some b) (hroom : sLen + cnt ≤ sCap) (hb : h.get l = some ob) (hh : ∀ m, h'.get m = if m = l then some ob' else h.get m) (ha : ob.after ob' (o + sLen * z) vs) (h1 : ∀ v ∈ vs, v.one = true) :
    ∃ w', (Builtin.append_ #[ty, tx] oty #[.slice (some ⟨b, o, none⟩) sLen sCap, xu]).run E.P w = .ok (.slice (some ⟨b, o, none⟩) (sLen + cnt) sCap) w' ∧ Post ρ h.get n w ρ h'.get n w' := by
  obtain ⟨w', g1, g2⟩ := store_post (P := E.P) hrel hl hb hh ha h1 (us := new.toList) (by simpa using hvn)
  have hz : (sizeOf e).run E.P w = .ok z w := by simp [sizeOf, typeInfo, T.hi, T.hs]
  exact ⟨w', run_app_in T.ht T.hx T.hd hz hm hroom (by rw [Addr.add_mid]; exact g1), g2⟩

theorem appendK_ok {n z cnt : Nat} {e : TypeId} {s : AV} {vs : List AV} {k : AV → Hp → Nat → R β} {r : β} (hr : appendK h n z e s cnt vs k = some r) (hcnt : cnt ≤ 1000000) (hln : vs.length = cnt * z) :
    ∃ v h' n', k v h' n' = some r ∧ ∀ (ty tx oty : TypeId) (d : TypeDesc) (i : TypeInfo) (zv : Value), AppT E ty tx e d i zv z → ∀ (ρ : Den) (w : World) (su xu : Value) (new : Array Value), Rel ρ h.get n w → VR ρ s su → More E.P w z xu cnt new → VRs ρ vs new →
      ∃ u w' ρ', (Builtin.append_ #[ty, tx] oty #[su, xu]).run E.P w = .ok u w' ∧ Post ρ h.get n w ρ' h'.get n' w' ∧ VR ρ' v u := by
  unfold appendK at hr
  cases s <;> simp only [reduceCtorEq] at hr
  · -- a slice
    rename_i l o m c
    rw [ifB_eq] at hr
    split at hr
    · -- nothing is appended
      rename_i h0
      rw [Nat.beq_eq] at h0
      subst h0
      refine ⟨_, _, _, hr, fun ty tx oty d i zv T ρ w su xu new hrel hs hm hv => ?_⟩
      have hs' := hs
      obtain ⟨b, cap, hb, rfl, hcap, _⟩ := sl_inv hs
      have hnew : new = #[] := by
        have := hv.1
        rw [hln] at this
        simp at this
        exact Array.eq_empty_of_size_eq_zero this.symm
      subst hnew
      have hz : (sizeOf e).run E.P w = .ok z w := by simp [sizeOf, typeInfo, T.hi, T.hs]
      exact ⟨_, w, ρ, run_app_in T.ht T.hx T.hd hz hm (by omega) (by simp [storeCells]), Post.refl hrel, hs'⟩
    · rename_i h0
      simp only [ob_some, forceN_eq, gd_some] at hr
      obtain ⟨b, hb, hneed, hr⟩ := hr
      have hneed' : m + cnt ≤ 1000000 := Nat.le_of_ble_eq_true hneed
      cases c with
      | none =>
        cases b with
        | cells c q e' => cases hr
        | map es => cases hr
        | row c q zz e' =>
          simp only [gd_some] at hr
          obtain ⟨ho, hzz, hee, hr⟩ := hr
          rw [Nat.beq_eq] at ho hzz hee
          subst ho
          subst hzz
          subst hee
          rw [ifB_eq] at hr
          split at hr
          · -- there is room for sure
            rename_i hroom
            have hroom' : (m + cnt) * z ≤ q := Nat.le_of_ble_eq_true hroom
            obtain ⟨h', b, b', hr, h3, h4, h5, h6⟩ := store_some hr
            rw [hb] at h4
            cases h4
            refine ⟨_, _, _, hr, fun ty tx oty d i zv T ρ w su xu new hrel hs hm hv => ?_⟩
            cases hs
            rename_i bl hbl hcap
            obtain ⟨x, hx, cs, rfl, g1, g2, g3, g4⟩ := hrel.obj l _ bl hb hbl
            have hin : m + cnt ≤ ρ.cap l := by
              have : (m + cnt) * z ≤ ρ.cap l * z := by omega
              exact Nat.le_of_mul_le_mul_right this g3
            obtain ⟨w', g5, g6⟩ := room_post (oty := oty) (o := 0) T hrel hm hv hbl hin hb h5 (by simpa using h6) h3
            exact ⟨_, w', ρ, g5, g6, .slu l bl (m + cnt) hbl hin⟩
          · -- in place, or grown: whoever knows
            rename_i hroom
            rw [gd_some, gd_some] at hr
            obtain ⟨hq, hone, hr⟩ := hr
            rw [Nat.beq_eq] at hq
            have hq' : m * z = q := hq
            have h3 := (allOne_iff vs).1 hone
            obtain ⟨c', hr, hc'⟩ := fillK_spec _ _ _ _ _ hr
            obtain ⟨hA, hr, hhA⟩ := Tr.setK_spec _ _ _ _ _ hr
            obtain ⟨hB, hr, hhB⟩ := Tr.setK_spec _ _ _ _ _ hr
            refine ⟨_, _, _, hr, fun ty tx oty d i zv T ρ w su xu new hrel hs hm hv => ?_⟩
            cases hs
            rename_i bl hbl hcap
            have hln' : l ≠ n := by
              intro e1
              subst e1
              have := (hrel.dom l bl hbl).2.2
              omega
            have hBn : hB.get n = some (.row c' ((m + cnt) * z) z e) := by
              rw [hhB, if_neg (Ne.symm hln'), hhA, if_pos rfl]
              rfl
            have hBl : hB.get l = none := by rw [hhB, if_pos rfl]
            have hBx : ∀ x, x ≠ n → x ≠ l → hB.get x = h.get x := fun x hxn hxl => by rw [hhB, if_neg hxl, hhA, if_neg hxn]
            obtain ⟨x, hx, cs, rfl, g1, g2, g3, g4⟩ := hrel.obj l _ bl hb hbl
            by_cases hin : m + cnt ≤ ρ.cap l
            · -- in place
              have hz : (sizeOf e).run E.P w = .ok z w := by simp [sizeOf, typeInfo, T.hi, T.hs]
              have hnl : new.toList.length = cnt * z := by have := hv.1; simp; omega
              have hfit : m * z + new.toList.length ≤ cs.size := by
                rw [hnl, g1, ← Nat.add_mul]
                exact Nat.mul_le_mul_right z hin
              have hnl' : new.size = cnt * z := by simpa using hnl
              have hfit' : m * z + new.size ≤ cs.size := by simpa using hfit
              have hones : ∀ u ∈ new.toList, u.oneCell' = true := by
                intro u hu
                obtain ⟨j, hj, rfl⟩ := List.mem_iff_getElem.1 hu
                have hj' : j < vs.length := by omega
                exact one_cell (hv.2 j vs[j] new.toList[j] (List.getElem?_eq_getElem hj') (by rw [← Array.getElem?_toList]; exact List.getElem?_eq_getElem hj)) (h3 _ (List.getElem_mem hj'))
              have hst := run_storeCells_at E.P bl (m * z) e new.toList 0 cs w hx (by simpa using hfit) hones
              simp only [Nat.add_zero] at hst
              have hrun := run_app_in (ty := oty) (ad := ⟨bl, 0, none⟩) T.ht T.hx T.hd hz hm hin (by rw [Addr.add_mid, Nat.zero_add]; exact hst)
              have hn0 : ρ.at_ n = none := by
                cases hq : ρ.at_ n with
                | none => rfl
                | some b => have := (hrel.dom n b hq).2.2; omega
              have hle : ρ.Le (ρ.put n bl (ρ.cap l)) := Den.put_le hn0
              have hcapn : (ρ.put n bl (ρ.cap l)).cap n = ρ.cap l := by simp [Den.put]
              have hor : OR (ρ.put n bl (ρ.cap l)) n (.row c' ((m + cnt) * z) z e) (.cells (cs.toList.take (m * z) ++ new.toList ++ cs.toList.drop (m * z + new.toList.length)).toArray e (0, 0)) := by
                refine ⟨_, rfl, by rw [hcapn]; simp; omega, by rw [Nat.add_mul]; simp; omega, g3, fun j v hj hg => ?_⟩
                rw [List.getElem?_toArray, mid_get _ _ _ _ (by simpa using hfit)]
                rw [hc'] at hg
                rw [← hq', ← show new.toList.length = vs.length from by omega] at hg
                split at hg
                · rename_i hjj
                  rw [if_pos hjj]
                  obtain ⟨u, hu, hvr⟩ := hv.get hg
                  exact ⟨u, by simpa using hu, hvr.mono hle⟩
                · rename_i hjj
                  rw [if_neg hjj]
                  have hjlt : j < q := by
                    rw [Nat.add_mul, hq'] at hj
                    omega
                  obtain ⟨u, hu, hvr⟩ := g4 j v hjlt hg
                  exact ⟨u, by simpa using hu, hvr.mono hle⟩
              refine ⟨_, _, _, hrun, Post.move hrel hbl hb hBn hBl hBx (setRow_heap w bl cs _ e (0, 0) hx) hor (fun k hk => setRow_other w bl k _ hk) (by simp) rfl rfl rfl, ?_⟩
              have := VR.slu n bl (m + cnt) (Den.put_same ρ n bl (ρ.cap l)) (by rw [hcapn]; exact hin)
              rw [hcapn] at this
              exact this
            · -- grown
              have hfirst := first_cells (P := E.P) (w := w) (b := bl) (o := 0) (z := z) (m := m) (n := m) (c := ρ.cap l) (us := cs.toList.take (m * z)) (by simp; omega) (fun j u hu => by
                rw [Nat.zero_add]
                rw [List.getElem?_take] at hu
                split at hu
                · simp only [World.cell?, hx, Option.isSome_none, Bool.false_eq_true, if_false]
                  simpa using hu
                · cases hu)
              have hnl : new.size = cnt * z := by have := hv.1; omega
              refine grow_post' (oty := oty) T hrel hm hin hfirst hneed' (by rw [Nat.add_mul]; simp; omega) (Nat.le_refl _) (fun j v hj hg => ?_) hBn (fun x hxn => ?_)
              · rw [hc'] at hg
                split at hg
                · rename_i hjj
                  obtain ⟨u, hu, hvr⟩ := hv.get hg
                  refine ⟨u, ?_, hvr⟩
                  rw [Array.getElem?_append_right (by simp; omega)]
                  simp
                  rw [← hu]
                  congr 1
                  omega
                · rename_i hjj
                  have hjlt : j < q := by
                    rw [Nat.add_mul, hq'] at hj
                    omega
                  obtain ⟨u, hu, hvr⟩ := g4 j v hjlt hg
                  refine ⟨u, ?_, hvr⟩
                  rw [Array.getElem?_append_left (by simp; omega)]
                  simp [hq', hjlt, hu]
              · by_cases hxl : x = l
                · subst hxl
                  exact .inr ⟨hBl, bl, hbl⟩
                · exact .inl (hBx x hxn hxl)
      | some c =>
        change ifB _ _ _ = some r at hr
        rw [ifB_eq] at hr
        split at hr
        · rename_i hroom
          have hroom' : m + cnt ≤ c := Nat.le_of_ble_eq_true hroom
          obtain ⟨h', b, b', hr, h3, h4, h5, h6⟩ := store_some hr
          refine ⟨_, _, _, hr, fun ty tx oty d i zv T ρ w su xu new hrel hs hm hv => ?_⟩
          cases hs
          rename_i bl hbl hcap
          obtain ⟨w', g5, g6⟩ := room_post (oty := oty) (o := o) T hrel hm hv hbl hroom' h4 h5 h6 h3
          exact ⟨_, w', ρ, g5, g6, .sl l bl o (m + cnt) c hbl hroom'⟩
        · rename_i hroom
          simp only [ob_some] at hr
          obtain ⟨old, hold, hr⟩ := hr
          obtain ⟨cc, h', hr, hcc, hh⟩ := rowK_some hr
          refine ⟨_, _, _, hr, fun ty tx oty d i zv T ρ w su xu new hrel hs hm hv => ?_⟩
          cases hs
          rename_i bl hbl hcap
          have hroom' : ¬ m + cnt ≤ c := fun hle => hroom (Nat.ble_eq_true_of_le hle)
          obtain ⟨us, g1, g2, g3⟩ := readN_cells hrel hb hbl hold
          exact grow_post (oty := oty) T hrel hm hroom' (first_cells g1 g2) hneed' g3 hv (readN_spec _ _ _ _ hold).1 hln hcc (by rw [hh, if_pos rfl]) (fun x hx => .inl (by rw [hh, if_neg hx]))
  · -- no slice yet
    rw [ifB_eq] at hr
    split at hr
    · rename_i h0
      rw [Nat.beq_eq] at h0
      subst h0
      refine ⟨_, _, _, hr, fun ty tx oty d i zv T ρ w su xu new hrel hs hm hv => ?_⟩
      cases hs
      have hnew : new = #[] := by
        have := hv.1
        rw [hln] at this
        simp at this
        exact Array.eq_empty_of_size_eq_zero this.symm
      subst hnew
      refine ⟨.slice none 0 0, w, ρ, ?_, Post.refl hrel, .snil⟩
      have g1 := hm.len w rfl
      have g2 := hm.first w rfl
      have hz : (sizeOf e).run E.P w = .ok z w := by simp [sizeOf, typeInfo, T.hi, T.hs]
      rcases T.hd with ⟨q, hq⟩ | hq
      · simp [Builtin.append_, run_underlying T.ht, run_underlying T.hx, hq, hz, g1, g2]
      · simp [Builtin.append_, run_underlying T.ht, run_underlying T.hx, hq, hz, g1, g2]
    · rename_i h0
      obtain ⟨cc, h', hr, hcc, hh⟩ := rowK_some hr
      refine ⟨_, _, _, hr, fun ty tx oty d i zv T ρ w su xu new hrel hs hm hv => ?_⟩
      cases hs
      have hcnt0 : cnt ≠ 0 := by intro e0; subst e0; exact h0 rfl
      have := grow_post (oty := oty) (base := none) (sLen := 0) (sCap := 0) (old := #[]) (olds := []) T hrel hm (by omega) (fun w' _ => by simp [Builtin.firstCells]) (by omega) (VRs.nil ρ) hv (by simp) hln (by simpa using hcc) (by rw [hh, if_pos rfl]; rfl) (fun x hx => .inl (by rw [hh, if_neg hx]))
      simpa using this
end
end Go.Proofs.YtgedmmmgkfehjaaGreatDoor
