/- A region whose order is drawn: one operation comes up. A region whose order is drawn: the whole of it. -/
import Derived.Test.YtgedmmmgkfehjaaGreatDoorZi2
namespace Go.Proofs.YtgedmmmgkfehjaaGreatDoor

section
variable {E : Env} {m : Nat} {ops : Array Oper} {A : List Nat} {t0 : Tm} {ρ0 : Den} {h0 : Hf} {n0 : Nat} {w0 : World} {D S L : Nat → Prop} {lab : Nat → Option (Nat × AO)} {t : Tm} {h : Hf} {n : Nat} {ds : Ds} {ρ : Den} {a : Act} {w : World}

/-- one operation more is listed -/
theorem WInv.put (hs : Stat ops A) (hw : WInv ops m t0 ρ0 h0 n0 w0 D S L lab t h n ds ρ a w) {i : Nat} {o : Oper} (ho : ops[i]? = some o) (hD : D i) {ρ' : Den} {w' : World} {v : AV} {u : Value} (hp : Post ρ0 h0 n0 w0 ρ' h n w') (hle : ρ.Le ρ') (hv : VR ρ' v u) (hh : Holds m t o v)
    (hpend : ∀ j l ob, lab j = some (l, ob) → ¬ L j → j ≠ i → ρ'.at_ l = none ∧ h l = some ob) :
    WInv ops m t0 ρ0 h0 n0 w0 D S (fun x => L x ∨ x = i) lab t h n ds ρ' (a.put o.dst u) w' := by
  have hdef : (a.put o.dst u).defers = a.defers := by cases o.dst <;> rfl
  have hsz : (a.put o.dst u).tmps.size = a.tmps.size := by cases o.dst <;> simp [Act.put]
  have hget : ∀ d, o.dst ≠ some d → (a.put o.dst u).tmps.getD d undef = a.tmps.getD d undef := by
    intro d hd
    cases hdst : o.dst with
    | none => rfl
    | some d' =>
      have hlt : d' < a.tmps.size := by rw [hw.size]; exact (hh d' hdst).1
      rw [put_getD a d' d u hlt, if_neg (fun e => hd (by rw [hdst, e]))]
  refine ⟨hp, by rw [hdef]; exact hw.defers.mono hle, by rw [hsz]; exact hw.size, ?_, fun j p hj hDj hWj => .inl (hw.wr j p hj hDj hWj), fun j hj => .inl (hw.sure j hj), ?_, ?_, ?_⟩
  · rintro j (hj | rfl)
    · exact hw.sub j hj
    · exact hD
  · rintro j p d hj hL hd x hx
    by_cases hji : j = i
    · subst hji
      rw [ho] at hj
      cases hj
      obtain ⟨hlt, u1, hu1, htr⟩ := hh d hd
      rw [hu1] at hx
      cases hx
      have hlt' : d < a.tmps.size := by rw [hw.size]; exact hlt
      rw [hd, put_getD a d d u hlt', if_pos rfl]
      exact htr ρ' u hv
    · have hLj := hL.resolve_right hji
      have hne : o.dst ≠ some d := fun e => hji (hs.once j i p o d hj ho hd e)
      rw [hget d hne]
      exact (hw.done j p d hj hLj hd x hx).mono hle
  · intro d hd x hx
    have hne : o.dst ≠ some d := hd i o ho (.inr rfl)
    rw [hget d hne]
    exact (hw.rest d (fun j p hj hL => hd j p hj (.inl hL)) x hx).mono hle
  · intro j l ob hj hL
    exact hpend j l ob hj (fun e => hL (.inl e)) (fun e => hL (.inr e))

/-- an operation that was reckoned ahead comes up -/
theorem exec_pend (hs : Stat ops A) (hL : Down ops L) (hsig : SigOK E ρ0) (hm : Mid E m ops A t0 n0 D S lab t h n) (hw : WInv ops m t0 ρ0 h0 n0 w0 D S L lab t h n ds ρ a w) {i : Nat} {o : Oper} (ho : ops[i]? = some o) (hD : D i) (hi : ¬ L i)
    (hr : ∀ e ∈ o.after, Region.binds .any e = true → L e.on) (hW : isW o.op = false) {K : Act → World → Prop} {Q : Exit → Act → World → Prop}
    (hK : ∀ a' w' ρ', WInv ops m t0 ρ0 h0 n0 w0 D S (fun x => L x ∨ x = i) lab t h n ds ρ' a' w' → K a' w') : wpOp E.P ops Q i K a w := by
  have hev := (hm.ev i o ho hD hW).resolve_left fun e => hi (hw.sure i e)
  generalize hlab : lab i = q at hev
  have hsig' : SigOK E ρ := hsig.le hw.post.le
  unfold wpOp
  simp only [ho]
  cases hev with
  | skip ti hl hwn hd =>
    have hlk := looked hs hL hw ho hi hr hl
    rw [hwn ρ a.tmps (guard_related hlk), if_neg (by simp)]
    refine hK _ _ ρ (hw.put hs ho hD hw.post (.refl ρ) .undef hd fun j l ob hj hLj _ => hw.pend j l ob hj hLj)
  | pure ti hi' v hl hwn h1 h2 hok hd =>
    have hlk := looked hs hL hw ho hi hr hl
    rw [hwn ρ a.tmps (guard_related hlk), if_pos rfl]
    obtain ⟨u, g1, g2⟩ := hok ρ w a n o rfl hsig' (hw.post.rel.sub h1) (ops_related hlk)
    refine .inl ?_
    unfold Oper.wp
    rw [g1]
    exact hK _ _ ρ (hw.put hs ho hD hw.post (.refl ρ) g2 hd fun j l ob hj hLj _ => hw.pend j l ob hj hLj)
  | new ti ob mk l hl hwn hrd hok hd =>
    have hlk := looked hs hL hw ho hi hr hl
    rw [hwn ρ a.tmps (guard_related hlk), if_pos rfl]
    obtain ⟨obj, u, g1, g2⟩ := hok ρ w a o rfl (ops_related hlk)
    obtain ⟨p1, p2⟩ := hw.pend i l ob hlab hi
    obtain ⟨_, q1, q2⟩ := hm.lab1 i l ob hlab
    have hle : ρ.Le (ρ.put l w.heap.size 0) := Den.put_le p1
    obtain ⟨g3, g4⟩ := g2 (ρ.put l w.heap.size 0) l w.heap.size hle (Den.put_same ρ l _ _)
    refine .inl ?_
    unfold Oper.wp
    rw [g1]
    refine hK _ _ _ (hw.put hs ho hD (hw.post.late q1 q2 p1 p2 g3) hle g4 hd fun j l' ob' hj hLj hji => ?_)
    obtain ⟨r1, r2⟩ := hw.pend j l' ob' hj hLj
    have hne : l' ≠ l := by
      intro e
      subst e
      exact hji (hm.inj j i l' ob' ob hj hlab)
    exact ⟨by simp [Den.put, hne, r1], r2⟩

/-- at an operation that writes, when it comes up -/
theorem Link.here (hs : Stat ops A) (hm : Mid E m ops A t0 n0 D S lab t h n) {i : Nat} {o : Oper} (ho : ops[i]? = some o) (hi : ¬ D i) : Link ops A t0 i o t t := by
  intro d hd
  refine ⟨fun j p _ _ _ _ => rfl, fun hno => hm.base d fun j p hj hDj hdst => ?_⟩
  have hji : j ≠ i := by intro e; subst e; exact hi hDj
  rcases hs.looks i o ho d hd j p hj hdst hji with g | g
  · rw [hno j p hj hdst hji] at g; cases g
  · exact hi (anc_down hs hm.down j i hDj g)

/-- an operation that writes comes up -/
theorem exec_write (hs : Stat ops A) (hL : Down ops L) (hsig : SigOK E ρ0) (hrel0 : Rel ρ0 h0 n0 w0) (hm : Mid E m ops A t0 n0 D S lab t h n) (hw : WInv ops m t0 ρ0 h0 n0 w0 D S L lab t h n ds ρ a w) {i : Nat} {o : Oper} (ho : ops[i]? = some o) (hD : ¬ D i)
    (hr : ∀ e ∈ o.after, Region.binds .any e = true → L e.on) {t' : Tm} {h' : Hf} {n' : Nat} {ds' : Ds} {v : AV} {b : Bool} (hwn : WantedIs ops o t b)
    (hstep : if b = true then OpStep E o t h n ds v h' n' ds' else (v = .undef ∧ h' = h ∧ n' = n ∧ ds' = ds)) (hput : PutS m t o.dst v t') (S' : Nat → Prop) (hS' : ∀ x, S' x → S x ∨ x = i ∨ bitA A i x = true)
    {K : Act → World → Prop} {Q : Exit → Act → World → Prop}
    (hK : ∀ a' w' ρ', n ≤ n' → WInv ops m t0 ρ0 h0 n0 w0 (fun x => D x ∨ x = i) S' (fun x => L x ∨ x = i) lab t' h' n' ds' ρ' a' w' → K a' w') : wpOp E.P ops Q i K a w := by
  have hi : ¬ L i := fun e => hD (hw.sub i e)
  have hlk := looked hs hL hw ho hi hr (Link.here hs hm ho hD)
  -- what comes behind it
  have fin : ∀ u w' ρ' es, Post ρ h n w ρ' h' n' w' → VR ρ' v u → DR ρ' ds' es → WInv ops m t0 ρ0 h0 n0 w0 (fun x => D x ∨ x = i) S' (fun x => L x ∨ x = i) lab t' h' n' ds' ρ' (({ a with defers := es } : Act).put o.dst u) w' := by
    intro u w' ρ' es p1 p2 p3
    have hdef : (({ a with defers := es } : Act).put o.dst u).defers = es := by cases o.dst <;> rfl
    have hsz : (({ a with defers := es } : Act).put o.dst u).tmps.size = a.tmps.size := by cases o.dst <;> simp [Act.put]
    have hget : ∀ d, o.dst ≠ some d → (({ a with defers := es } : Act).put o.dst u).tmps.getD d undef = a.tmps.getD d undef := by
      intro d hd
      cases hdst : o.dst with
      | none => rfl
      | some d' =>
        rw [hdst] at hput
        have hlt : d' < a.tmps.size := by rw [hw.size]; exact hput.self.2
        rw [put_getD { a with defers := es } d' d u hlt, if_neg (fun e => hd (by rw [hdst, e]))]
    refine ⟨Post.trans hrel0 hw.post p1, by rw [hdef]; exact p3, by rw [hsz]; exact hw.size, ?_, ?_, ?_, ?_, ?_, ?_⟩
    · rintro j (hj | rfl)
      · exact .inl (hw.sub j hj)
      · exact .inr rfl
    · rintro j p hj (hDj | rfl) hWj
      · exact .inl (hw.wr j p hj hDj hWj)
      · exact .inr rfl
    · intro x hx
      rcases hS' x hx with hx | rfl | hx
      · exact .inl (hw.sure x hx)
      · exact .inr rfl
      · exact .inl (anc_ready hs hL ho hr hx)
    · rintro j p d hj hLj hd x hx
      by_cases hji : j = i
      · subst hji
        rw [ho] at hj
        cases hj
        rw [hd] at hput
        obtain ⟨q1, q2⟩ := hput.self
        rw [q1] at hx
        cases hx
        have hlt : d < a.tmps.size := by rw [hw.size]; exact q2
        rw [hd, put_getD { a with defers := es } d d u hlt, if_pos rfl]
        exact p2
      · have hLj' := hLj.resolve_right hji
        have hne : o.dst ≠ some d := fun e => hji (hs.once j i p o d hj ho hd e)
        rw [hget d hne]
        rw [hput.other hne] at hx
        exact (hw.done j p d hj hLj' hd x hx).mono p1.le
    · intro d hd x hx
      have hne : o.dst ≠ some d := hd i o ho (.inr rfl)
      rw [hget d hne]
      exact (hw.rest d (fun j p hj hLj => hd j p hj (.inl hLj)) x hx).mono p1.le
    · intro j l ob hj hLj
      obtain ⟨r1, r2⟩ := hw.pend j l ob hj fun e => hLj (.inl e)
      obtain ⟨_, _, q2⟩ := hm.lab1 j l ob hj
      obtain ⟨s1, s2⟩ := p1.pend l q2 r1
      exact ⟨s1, by rw [s2]; exact r2⟩
  unfold wpOp
  simp only [ho]
  rw [hwn ρ a.tmps (guard_related hlk)]
  cases b with
  | true =>
    rw [if_pos rfl] at hstep
    rw [if_pos rfl]
    exact .inl (hstep ρ a w (hsig.le hw.post.le) hw.post.rel (ops_related hlk) hw.defers K Q fun u w' ρ' es p1 p2 p3 => hK _ _ _ p1.mono (fin u w' ρ' es p1 p2 p3))
  | false =>
    rw [if_neg (by simp)] at hstep
    obtain ⟨rfl, rfl, rfl, rfl⟩ := hstep
    rw [if_neg (by simp)]
    exact hK _ _ ρ (Nat.le_refl _) (fin undef w ρ a.defers (Post.refl hw.post.rel) .undef hw.defers)

theorem EvI.mono {i : Nat} {o : Oper} {q : Option (Nat × AO)} {t' : Tm} {h' : Hf} (hev : EvI E m ops A t0 i o t h q) (h1 : ∀ d, o.dst = some d → t'.get d = t.get d)
    (h2 : ∀ d ∈ o.looksAt ops, ∀ (j : Nat) (p : Oper), ops[j]? = some p → p.dst = some d → j ≠ i → bitA A i j = true → t'.get d = t.get d) (h3 : Sub h h' ∨ readsB E o.op = false) : EvI E m ops A t0 i o t' h' q := by
  have hh : ∀ v, Holds m t o v → Holds m t' o v := fun v hv d hd => by rw [h1 d hd]; exact hv d hd
  have hl' : ∀ ti, Link ops A t0 i o ti t → Link ops A t0 i o ti t' := fun ti hl d hd => ⟨fun j p g1 g2 g3 g4 => by rw [h2 d hd j p g1 g2 g3 g4]; exact (hl d hd).1 j p g1 g2 g3 g4, (hl d hd).2⟩
  cases hev with
  | skip ti hl hw hd => exact .skip ti (hl' ti hl) hw (hh _ hd)
  | pure ti hi v hl hw g1 g2 hok hd =>
    refine .pure ti hi v (hl' ti hl) hw ?_ g2 hok (hh _ hd)
    rcases h3 with h3 | h3
    · exact g1.trans h3
    · rw [g2 h3]
      intro x y hx
      cases hx
  | new ti ob mk l hl hw hrd hok hd => exact .new ti ob mk l (hl' ti hl) hw hrd hok (hh _ hd)

theorem PutS.holds {t t' : Tm} {o : Oper} {v : AV} (h : PutS m t o.dst v t') : Holds m t' o v := by
  intro d hd
  rw [hd] at h
  exact ⟨h.self.2, v, h.self.1, fun ρ y hy => hy⟩

/-- an operation that does not write is reckoned ahead -/
theorem mid_ev (hs : Stat ops A) (hm : Mid E m ops A t0 n0 D S lab t h n) {i : Nat} {o : Oper} (ho : ops[i]? = some o) (hD : ¬ D i) (he : ∀ e ∈ o.after, Region.binds .any e = true → D e.on) (hW : isW o.op = false) {t' : Tm} {h' : Hf} {n' : Nat} (hev : EvS E m ops o t h n t' h' n') :
    ∃ lab', Mid E m ops A t0 n0 (fun x => D x ∨ x = i) S lab' t' h' n' ∧ ∀ (L : Nat → Prop) (ρ : Den) (a : Act) (w : World), WInv ops m t0 ρ0 h0 n0 w0 D S L lab t h n ds ρ a w → WInv ops m t0 ρ0 h0 n0 w0 (fun x => D x ∨ x = i) S L lab' t' h' n' ds ρ a w := by
  have hlabi : lab i = none := by
    cases hq : lab i with
    | none => rfl
    | some p => exact absurd (hm.lab1 i p.1 p.2 (by rw [hq])).1 hD
  -- what is common to the three ways
  have main : ∀ (lab' : Nat → Option (Nat × AO)) (v : AV), PutS m t o.dst v t' → Sub h h' → (∀ x, x < n → h' x = h x) → n ≤ n' → (∀ j, j ≠ i → lab' j = lab j) → EvI E m ops A t0 i o t' h' (lab' i) →
      (∀ l ob, lab' i = some (l, ob) → l = n ∧ l < n' ∧ h' l = some ob) →
      Mid E m ops A t0 n0 (fun x => D x ∨ x = i) S lab' t' h' n' ∧ ∀ (L : Nat → Prop) (ρ : Den) (a : Act) (w : World), WInv ops m t0 ρ0 h0 n0 w0 D S L lab t h n ds ρ a w → WInv ops m t0 ρ0 h0 n0 w0 (fun x => D x ∨ x = i) S L lab' t' h' n' ds ρ a w := by
    intro lab' v hp hsub hlow hnn hlab hevi hl
    have hsame : ∀ (j : Nat) (p : Oper) (d : Tmp), ops[j]? = some p → D j → p.dst = some d → t'.get d = t.get d := by
      intro j p d hj hDj hd
      refine hp.other fun e => ?_
      have := hs.once j i p o d hj ho hd e
      subst this
      exact hD hDj
    refine ⟨⟨?_, ?_, ?_, ?_, ?_, Nat.le_trans hm.n0 hnn⟩, ?_⟩
    · rintro j p hj hDj hWj
      by_cases hji : j = i
      · subst hji
        rw [ho] at hj
        cases hj
        exact .inr hevi
      · have hDj' := hDj.resolve_right hji
        rw [hlab j hji]
        refine (hm.ev j p hj hDj' hWj).imp id fun e => e.mono (fun d hd => hsame j p d hj hDj' hd) (fun d hd j' p' g1 g2 g3 g4 => ?_) (.inl hsub)
        exact hsame j' p' d g1 (anc_down hs hm.down j j' hDj' g4) g2
    · intro d hd
      rw [hp.other (hd i o ho (.inr rfl))]
      exact hm.base d fun j p hj hDj => hd j p hj (.inl hDj)
    · intro j j' l ob ob' g1 g2
      by_cases hji : j = i <;> by_cases hji' : j' = i
      · rw [hji, hji']
      · subst hji
        rw [hlab j' hji'] at g2
        have := (hm.lab1 j' l ob' g2).2.2
        have := (hl l ob g1).1
        omega
      · subst hji'
        rw [hlab j hji] at g1
        have := (hm.lab1 j l ob g1).2.2
        have := (hl l ob' g2).1
        omega
      · rw [hlab j hji] at g1
        rw [hlab j' hji'] at g2
        exact hm.inj j j' l ob ob' g1 g2
    · intro j l ob g1
      by_cases hji : j = i
      · subst hji
        obtain ⟨e1, e2, _⟩ := hl l ob g1
        exact ⟨.inr rfl, by rw [e1]; exact hm.n0, e2⟩
      · rw [hlab j hji] at g1
        obtain ⟨e1, e2, e3⟩ := hm.lab1 j l ob g1
        exact ⟨.inl e1, e2, Nat.lt_of_lt_of_le e3 hnn⟩
    · rintro j p hj (hDj | rfl) e hem hb
      · exact .inl (hm.down j p hj hDj e hem hb)
      · rw [ho] at hj
        cases hj
        exact .inl (he e hem hb)
    · intro L ρ a w hw
      refine ⟨hw.post.grow hnn hlow, hw.defers, hw.size, fun j hj => .inl (hw.sub j hj), ?_, hw.sure, ?_, hw.rest, ?_⟩
      · rintro j p hj (hDj | rfl) hWj
        · exact hw.wr j p hj hDj hWj
        · rw [ho] at hj
          cases hj
          rw [hW] at hWj
          cases hWj
      · intro j p d hj hLj hd x hx
        rw [hsame j p d hj (hw.sub j hLj) hd] at hx
        exact hw.done j p d hj hLj hd x hx
      · intro j l ob g1 hLj
        by_cases hji : j = i
        · subst hji
          obtain ⟨e1, _, e3⟩ := hl l ob g1
          refine ⟨?_, e3⟩
          cases hq : ρ.at_ l with
          | none => rfl
          | some b => have := (hw.post.rel.dom l b hq).2.2; omega
        · rw [hlab j hji] at g1
          obtain ⟨r1, r2⟩ := hw.pend j l ob g1 hLj
          exact ⟨r1, by rw [hlow l (hm.lab1 j l ob g1).2.2]; exact r2⟩
  have hlink : ∀ (v : AV), PutS m t o.dst v t' → Link ops A t0 i o t t' := by
    intro v hp d hd
    have hh := Link.here hs hm ho hD d hd
    refine ⟨fun j p g1 g2 g3 g4 => ?_, hh.2⟩
    have hne : o.dst ≠ some d := fun e => g3 (hs.once j i p o d g1 ho g2 e)
    exact (hp.other hne).symm
  cases hev with
  | skip hw hp =>
    refine ⟨lab, main lab _ hp (Sub.refl h) (fun _ _ => rfl) (Nat.le_refl _) (fun _ _ => rfl) ?_ (fun l ob g => by rw [hlabi] at g; cases g)⟩
    rw [hlabi]
    exact .skip t (hlink _ hp) hw hp.holds
  | pure hi v hw g1 g2 hok hp =>
    refine ⟨lab, main lab _ hp (Sub.refl h) (fun _ _ => rfl) (Nat.le_refl _) (fun _ _ => rfl) ?_ (fun l ob g => by rw [hlabi] at g; cases g)⟩
    rw [hlabi]
    exact .pure t hi v (hlink _ hp) hw g1 g2 hok hp.holds
  | new x0 ob1 mk hw hrd hok hn hh hp =>
    refine ⟨fun x => if x = i then some (n, ob1) else lab x, main _ _ hp ?_ ?_ (by omega) (fun j hj => by simp [hj]) ?_ ?_⟩
    · intro x y hx
      have : x ≠ n := by intro e; subst e; rw [hn] at hx; cases hx
      rw [hh, if_neg this]
      exact hx
    · intro x hx
      rw [hh, if_neg (by omega)]
    · simp only [if_true]
      exact .new t ob1 mk n (hlink _ hp) hw hrd hok hp.holds
    · intro l ob' g
      simp only [if_true, Option.some.injEq, Prod.mk.injEq] at g
      obtain ⟨rfl, rfl⟩ := g
      exact ⟨rfl, by omega, by rw [hh, if_pos rfl]⟩

/-- an operation that writes is reckoned -/
theorem mid_write (hs : Stat ops A) (hm : Mid E m ops A t0 n0 D S lab t h n) {i : Nat} {o : Oper} (ho : ops[i]? = some o) (hD : ¬ D i) (he : ∀ e ∈ o.after, Region.binds .any e = true → D e.on) (hW : isW o.op = true) {t' : Tm} {h' : Hf} {n' : Nat} {v : AV} (hp : PutS m t o.dst v t') (hnn : n ≤ n')
    (hre : ∀ (j : Nat) (p : Oper), ops[j]? = some p → D j → isW p.op = false → readsB E p.op = true → bitA A i j = true ∨ ((∃ hp' : Hp, hp'.get = h' ∧ ReS E ops p t' hp') ∧ ∀ d ∈ p.looksAt ops, ∀ (k : Nat) (q : Oper), ops[k]? = some q → q.dst = some d → k ≠ j ∧ bitA A j k = true)) :
    Mid E m ops A t0 n0 (fun x => D x ∨ x = i) (fun x => S x ∨ x = i ∨ bitA A i x = true) lab t' h' n' := by
  have hsame : ∀ (j : Nat) (p : Oper) (d : Tmp), ops[j]? = some p → D j → p.dst = some d → t'.get d = t.get d := by
    intro j p d hj hDj hd
    refine hp.other fun e => ?_
    have := hs.once j i p o d hj ho hd e
    subst this
    exact hD hDj
  have hbase : ∀ d, (∀ (j : Nat) (p : Oper), ops[j]? = some p → (D j ∨ j = i) → p.dst ≠ some d) → t'.get d = t0.get d := by
    intro d hd
    rw [hp.other (hd i o ho (.inr rfl))]
    exact hm.base d fun j p hj hDj => hd j p hj (.inl hDj)
  refine ⟨?_, hbase, hm.inj, ?_, ?_, Nat.le_trans hm.n0 hnn⟩
  · intro j p hj hDj hWj
    have hji : j ≠ i := by
      intro e
      subst e
      rw [ho] at hj
      cases hj
      rw [hW] at hWj
      cases hWj
    have hDj' := hDj.resolve_right hji
    rcases hm.ev j p hj hDj' hWj with g | g
    · exact .inl (.inl g)
    · generalize lab j = q at g ⊢
      have hmono : readsB E p.op = false → EvI E m ops A t0 j p t' h' q := fun hrd => g.mono (fun d hd => hsame j p d hj hDj' hd) (fun d hd j' p' g1 g2 g3 g4 => hsame j' p' d g1 (anc_down hs hm.down j j' hDj' g4) g2) (.inr hrd)
      cases hrd : readsB E p.op with
      | false => exact .inr (hmono hrd)
      | true =>
        rcases hre j p hj hDj' hWj hrd with hb | ⟨⟨hp', hhp, hres⟩, hlooks⟩
        · exact .inl (.inr (.inr hb))
        · refine .inr ?_
          have hlk : Link ops A t0 j p t' t' := by
            intro d hd
            refine ⟨fun _ _ _ _ _ _ => rfl, fun hno => hbase d fun k q hk hDk hdq => ?_⟩
            obtain ⟨hk1, hk2⟩ := hlooks d hd k q hk hdq
            rw [hno k q hk hdq hk1] at hk2
            cases hk2
          have hhold : ∀ v', (∀ d, p.dst = some d → ∃ u, t'.get d = some u ∧ ∀ (ρ : Den) (y : Value), VR ρ v' y → VR ρ u y) → Holds m t' p v' := by
            intro v' hv' d hd
            refine ⟨?_, hv' d hd⟩
            cases g with
            | skip _ _ _ hh => exact (hh d hd).1
            | pure _ _ _ _ _ _ _ _ hh => exact (hh d hd).1
            | new _ _ _ _ _ _ _ _ hh => exact (hh d hd).1
          -- a read makes nothing
          have hlabj : q = none := by
            cases g with
            | skip => rfl
            | pure => rfl
            | new ti ob mk l hl hw hr0 hok hd => rw [hrd] at hr0; cases hr0
          rw [hlabj]
          rcases hres with ⟨hw, hd⟩ | ⟨v', hw, hok, hd⟩
          · exact .skip t' hlk hw (hhold _ hd)
          · exact .pure t' hp' v' hlk hw (by rw [hhp]; exact Sub.refl _) (fun e => by rw [hrd] at e; cases e) hok (hhold _ hd)
  · intro j l ob g
    obtain ⟨e1, e2, e3⟩ := hm.lab1 j l ob g
    exact ⟨.inl e1, e2, Nat.lt_of_lt_of_le e3 hnn⟩
  · rintro j p hj (hDj | rfl) e hem hb
    · exact .inl (hm.down j p hj hDj e hem hb)
    · rw [ho] at hj
      cases hj
      exact .inl (he e hem hb)
end
end Go.Proofs.YtgedmmmgkfehjaaGreatDoor

namespace Go.Proofs.YtgedmmmgkfehjaaGreatDoor

/-- what the reckoner's own order comes to -/
inductive Tra (E : Env) (m : Nat) (ops : Array Oper) : List PI → Tm → Hf → Nat → Ds → Tm → Hf → Nat → Ds → Prop where
  | nil (t : Tm) (h : Hf) (n : Nat) (ds : Ds) : Tra E m ops [] t h n ds t h n ds
  | ev (i : Nat) (o : Oper) (r : List PI) (t : Tm) (h : Hf) (n : Nat) (ds : Ds) (t1 : Tm) (h1 : Hf) (n1 : Nat) (t2 : Tm) (h2 : Hf) (n2 : Nat) (ds2 : Ds) (hs : EvS E m ops o t h n t1 h1 n1) (hr : Tra E m ops r t1 h1 n1 ds t2 h2 n2 ds2) : Tra E m ops (.ev i o :: r) t h n ds t2 h2 n2 ds2
  | wr (i : Nat) (o : Oper) (re : List (Oper × Nat)) (r : List PI) (t : Tm) (h : Hf) (n : Nat) (ds : Ds) (t1 : Tm) (h1 : Hf) (n1 : Nat) (ds1 : Ds) (t2 : Tm) (h2 : Hf) (n2 : Nat) (ds2 : Ds) (b : Bool) (v : AV) (hw : WantedIs ops o t b)
      (hstep : if b = true then OpStep E o t h n ds v h1 n1 ds1 else (v = .undef ∧ h1 = h ∧ n1 = n ∧ ds1 = ds)) (hp : PutS m t o.dst v t1) (hre : ∀ x ∈ re, ∃ hp' : Hp, hp'.get = h1 ∧ ReS E ops x.1 t1 hp') (hr : Tra E m ops r t1 h1 n1 ds1 t2 h2 n2 ds2) : Tra E m ops (.wr i o re :: r) t h n ds t2 h2 n2 ds2
  | pair (i j : Nat) (o p : Oper) (t : Tm) (h : Hf) (n : Nat) (ds : Ds) (t2 : Tm) (h2 : Hf) (n2 : Nat) (ds2 : Ds) (hr : Tra E m ops [.wr i o [], .wr j p []] t h n ds t2 h2 n2 ds2) (hr' : Tra E m ops [.wr j p [], .wr i o []] t h n ds t2 h2 n2 ds2) : Tra E m ops [.pair i j o p] t h n ds t2 h2 n2 ds2

/-- the order keeps the edges -/
inductive Val (E : Env) (ops : Array Oper) (A : List Nat) : List PI → (Nat → Prop) → Prop where
  | nil (D : Nat → Prop) (h : ∀ i, i < ops.size → D i) : Val E ops A [] D
  | ev (i : Nat) (o : Oper) (r : List PI) (D : Nat → Prop) (ho : ops[i]? = some o) (hW : isW o.op = false) (hD : ¬ D i) (he : ∀ e ∈ o.after, Region.binds .any e = true → D e.on) (hr : Val E ops A r fun x => D x ∨ x = i) : Val E ops A (.ev i o :: r) D
  | wr (i : Nat) (o : Oper) (re : List (Oper × Nat)) (r : List PI) (D : Nat → Prop) (ho : ops[i]? = some o) (hW : isW o.op = true) (hD : ¬ D i) (he : ∀ e ∈ o.after, Region.binds .any e = true → D e.on)
      (hre : ∀ (j : Nat) (p : Oper), ops[j]? = some p → D j → isW p.op = false → readsB E p.op = true → bitA A i j = true ∨ ((p, j) ∈ re ∧ ∀ d ∈ p.looksAt ops, ∀ (k : Nat) (q : Oper), ops[k]? = some q → q.dst = some d → k ≠ j ∧ bitA A j k = true))
      (hh : ∀ j, j < ops.size → ¬ D j → j ≠ i → ∃ w, ¬ D w ∧ bitA A j w = true) (hr : Val E ops A r fun x => D x ∨ x = i) : Val E ops A (.wr i o re :: r) D
  | pair (i j : Nat) (o p : Oper) (D : Nat → Prop) (ho : ops[i]? = some o) (hp : ops[j]? = some p) (hWi : isW o.op = true) (hWj : isW p.op = true) (hDi : ¬ D i) (hDj : ¬ D j) (hij : i ≠ j) (hei : ∀ e ∈ o.after, Region.binds .any e = true → D e.on) (hej : ∀ e ∈ p.after, Region.binds .any e = true → D e.on)
      (hre : ∀ (k : Nat) (q : Oper), ops[k]? = some q → D k → isW q.op = false → readsB E q.op = true → bitA A i k = true ∧ bitA A j k = true) (hc : ∀ k, k < ops.size → D k ∨ k = i ∨ k = j) : Val E ops A [.pair i j o p] D

def NoEv : List PI → Prop
  | .ev _ _ :: _ => False
  | _ => True

section
variable {E : Env} {m : Nat} {ops : Array Oper} {A : List Nat} {t0 : Tm} {ρ0 : Den} {h0 : Hf} {n0 : Nat} {w0 : World}

/-- what does not write is reckoned ahead -/
theorem evs_all (hs : Stat ops A) {tF : Tm} {hF : Hf} {nF : Nat} {dsF : Ds} {S : Nat → Prop} : ∀ (r : List PI) (D : Nat → Prop) (lab : Nat → Option (Nat × AO)) (t : Tm) (h : Hf) (n : Nat) (ds : Ds), Tra E m ops r t h n ds tF hF nF dsF → Val E ops A r D → Mid E m ops A t0 n0 D S lab t h n →
    ∃ r' D' lab' t' h' n', NoEv r' ∧ Tra E m ops r' t' h' n' ds tF hF nF dsF ∧ Val E ops A r' D' ∧ Mid E m ops A t0 n0 D' S lab' t' h' n' ∧ ∀ (L : Nat → Prop) (ρ : Den) (a : Act) (w : World), WInv ops m t0 ρ0 h0 n0 w0 D S L lab t h n ds ρ a w → WInv ops m t0 ρ0 h0 n0 w0 D' S L lab' t' h' n' ds ρ a w
  | [], D, lab, t, h, n, ds, htr, hv, hm => ⟨[], D, lab, t, h, n, trivial, htr, hv, hm, fun _ _ _ _ hw => hw⟩
  | .wr i o re :: r, D, lab, t, h, n, ds, htr, hv, hm => ⟨.wr i o re :: r, D, lab, t, h, n, trivial, htr, hv, hm, fun _ _ _ _ hw => hw⟩
  | .pair i j o p :: r, D, lab, t, h, n, ds, htr, hv, hm => ⟨.pair i j o p :: r, D, lab, t, h, n, trivial, htr, hv, hm, fun _ _ _ _ hw => hw⟩
  | .ev i o :: r, D, lab, t, h, n, ds, htr, hv, hm => by
    cases htr with
    | ev _ _ _ _ _ _ _ t1 h1 n1 _ _ _ _ hev hr =>
      cases hv with
      | ev _ _ _ _ ho hW hD he hvr =>
        obtain ⟨lab1, hm1, hw1⟩ := mid_ev (ρ0 := ρ0) (h0 := h0) (w0 := w0) (ds := ds) hs hm ho hD he hW hev
        obtain ⟨r', D', lab', t', h', n', g1, g2, g3, g4, g5⟩ := evs_all hs r _ lab1 t1 h1 n1 ds hr hvr hm1
        exact ⟨r', D', lab', t', h', n', g1, g2, g3, g4, fun L ρ a w hw => g5 L ρ a w (hw1 L ρ a w hw)⟩

/-- how many are still to come -/
def toCome (listed : Array Bool) : Nat := listed.toList.count false
theorem toCome_set {listed : Array Bool} {i : Nat} (h : listed.getD i true = false) : toCome listed = toCome (listed.setIfInBounds i true) + 1 := by
  have hi : i < listed.size := by
    rcases Nat.lt_or_ge i listed.size with h' | h'
    · exact h'
    · simp [Array.getElem?_eq_none h'] at h
  have hv : listed[i] = false := by simpa [hi] using h
  unfold toCome
  rw [Array.toList_setIfInBounds]
  have e : listed.toList = listed.toList.take i ++ false :: listed.toList.drop (i + 1) := by
    have h1 : i < listed.toList.length := by simpa using hi
    conv => lhs; rw [← List.take_append_drop i listed.toList, List.drop_eq_getElem_cons h1]
    simp [hv]
  have e2 : listed.toList.set i true = listed.toList.take i ++ true :: listed.toList.drop (i + 1) := by
    rw [List.set_eq_take_append_cons_drop, if_pos (by simpa using hi)]
  rw [e2]
  conv => lhs; rw [e]
  simp [List.count_append]
  omega
/-- what is listed -/
def Lst (listed : Array Bool) : Nat → Prop := fun i => listed.getD i false = true
theorem lst_lt {listed : Array Bool} {i : Nat} (h : listed.getD i true = false) : i < listed.size := by
  rcases Nat.lt_or_ge i listed.size with h' | h'
  · exact h'
  · simp [Array.getElem?_eq_none h'] at h
theorem lst_not {listed : Array Bool} {i : Nat} (h : listed.getD i true = false) : ¬ Lst listed i := by
  have := lst_lt h
  simp [this] at h
  simp [Lst, this, h]
theorem lst_set {listed : Array Bool} {i : Nat} (h : listed.getD i true = false) : Lst (listed.setIfInBounds i true) = fun x => Lst listed x ∨ x = i := by
  have hi := lst_lt h
  funext x
  apply propext
  by_cases hx : x = i
  · subst hx; simp [Lst, hi]
  · simp [Lst, Ne.symm hx, hx]
theorem down_set {L : Nat → Prop} (hL : Down ops L) {i : Nat} {o : Oper} (ho : ops[i]? = some o) (hr : ∀ e ∈ o.after, Region.binds .any e = true → L e.on) : Down ops fun x => L x ∨ x = i := by
  rintro j p hj (hLj | rfl) e he hb
  · exact .inl (hL j p hj hLj e he hb)
  · rw [ho] at hj
    cases hj
    exact .inl (hr e he hb)

/-- whatever order comes -/
theorem any_order (hs : Stat ops A) (hsig : SigOK E ρ0) (hrel0 : Rel ρ0 h0 n0 w0) {tF : Tm} {hF : Hf} {nF : Nat} {dsF : Ds} {Q : Exit → Act → World → Prop}
    (hQ : ∀ a w ρ, Post ρ0 h0 n0 w0 ρ hF nF w → FR ρ m tF dsF a → Q .normal a w) :
    ∀ (f : Nat) (listed : Array Bool) (rest : List PI) (D S : Nat → Prop) (lab : Nat → Option (Nat × AO)) (t : Tm) (h : Hf) (n : Nat) (ds : Ds) (ρ : Den) (a : Act) (w : World), listed.size = ops.size → toCome listed = f → Down ops (Lst listed) → Tra E m ops rest t h n ds tF hF nF dsF → Val E ops A rest D → NoEv rest →
      Mid E m ops A t0 n0 D S lab t h n → WInv ops m t0 ρ0 h0 n0 w0 D S (Lst listed) lab t h n ds ρ a w → wpAny E.P .any ops Q f listed a w
  | 0, listed, rest, D, S, lab, t, h, n, ds, ρ, a, w, hsz, hf, hL, htr, hv, hne, hm, hw => by
    have hall : ∀ i, i < ops.size → Lst listed i := by
      intro i hi
      cases hq : listed.getD i true with
      | true => rw [← hsz] at hi; simp [hi] at hq; simp [Lst, hi, hq]
      | false => have := toCome_set hq; omega
    have hready : Region.ready .any ops listed = [] := by
      cases hq : Region.ready .any ops listed with
      | nil => rfl
      | cons x xs =>
        have hx : x ∈ Region.ready .any ops listed := by rw [hq]; simp
        obtain ⟨h1, o, h2, _⟩ := mem_ready.1 hx
        exact absurd (hall x (Array.getElem?_eq_some_iff.1 h2).1) (lst_not h1)
    refine ⟨hready, ?_⟩
    have hnil : rest = [] := by
      cases rest with
      | nil => rfl
      | cons x r =>
        exfalso
        cases hv with
        | ev => exact hne
        | wr i o re r D ho hW hD => exact hD (hw.sub i (hall i (Array.getElem?_eq_some_iff.1 ho).1))
        | pair i j o p D ho hp hWi hWj hDi => exact hDi (hw.sub i (hall i (Array.getElem?_eq_some_iff.1 ho).1))
    subst hnil
    cases htr
    refine hQ a w ρ hw.post ⟨fun d v hd => ?_, hw.size, hw.defers⟩
    by_cases hex : ∃ (i : Nat) (o : Oper), ops[i]? = some o ∧ o.dst = some d
    · obtain ⟨i, o, ho, hdst⟩ := hex
      exact hw.done i o d ho (hall i (Array.getElem?_eq_some_iff.1 ho).1) hdst v hd
    · have hno : ∀ (i : Nat) (o : Oper), ops[i]? = some o → o.dst ≠ some d := fun i o ho e => hex ⟨i, o, ho, e⟩
      rw [hm.base d fun i o ho _ => hno i o ho] at hd
      exact hw.rest d (fun i o ho _ => hno i o ho) v hd
  | f + 1, listed, rest, D, S, lab, t, h, n, ds, ρ, a, w, hsz, hf, hL, htr, hv, hne, hm, hw => by
    refine ⟨fun hready => ?_, fun i hi => ?_⟩
    · -- something is still to come, and the first of it may come
      exfalso
      have hall : ∀ i, i < ops.size → Lst listed i := by
        intro i
        induction i using Nat.strongRecOn with
        | _ i ih =>
          intro hi
          cases hq : listed.getD i true with
          | true => have hi' := hi; rw [← hsz] at hi'; simp [hi'] at hq; simp [Lst, hi', hq]
          | false =>
            exfalso
            have hx : i ∈ Region.ready .any ops listed := by
              refine mem_ready.2 ⟨hq, ops[i], Array.getElem?_eq_getElem hi, fun e he hb => ?_⟩
              have hlt := hs.low i ops[i] (Array.getElem?_eq_getElem hi) e he hb
              exact ih e.on hlt (by omega)
            rw [hready] at hx
            cases hx
      have : toCome listed = 0 := by
        unfold toCome
        rw [List.count_eq_zero]
        intro hmem
        obtain ⟨i, hi, he⟩ := List.mem_iff_getElem.1 hmem
        have hi' : i < listed.size := by simpa using hi
        have := hall i (by omega)
        simp [Lst, hi'] at this
        rw [Array.getElem_toList] at he
        rw [this] at he
        cases he
      omega
    · obtain ⟨h1, o, ho, hr⟩ := mem_ready.1 hi
      have hr' : ∀ e ∈ o.after, Region.binds .any e = true → Lst listed e.on := hr
      have hnl := lst_not h1
      have hsz' : (listed.setIfInBounds i true).size = ops.size := by simpa using hsz
      have hf' : toCome (listed.setIfInBounds i true) = f := by have := toCome_set h1; omega
      have hL' : Down ops (Lst (listed.setIfInBounds i true)) := by rw [lst_set h1]; exact down_set hL ho hr'
      have hilt : i < ops.size := (Array.getElem?_eq_some_iff.1 ho).1
      -- behind an operation that writes
      have behind : ∀ (o' : Oper) (re : List (Oper × Nat)) (r : List PI), ops[i]? = some o' → Tra E m ops (.wr i o' re :: r) t h n ds tF hF nF dsF → isW o'.op = true → ¬ D i → (∀ e ∈ o'.after, Region.binds .any e = true → D e.on) →
          (∀ (j : Nat) (p : Oper), ops[j]? = some p → D j → isW p.op = false → readsB E p.op = true → bitA A i j = true ∨ ((p, j) ∈ re ∧ ∀ d ∈ p.looksAt ops, ∀ (k : Nat) (q : Oper), ops[k]? = some q → q.dst = some d → k ≠ j ∧ bitA A j k = true)) →
          Val E ops A r (fun x => D x ∨ x = i) → wpOp E.P ops Q i (wpAny E.P .any ops Q f (listed.setIfInBounds i true)) a w := by
        intro o' re r ho' htr hW hD he hre hvr
        rw [ho] at ho'
        cases ho'
        cases htr with
        | wr _ _ _ _ _ _ _ _ t1 h1' n1 ds1 _ _ _ _ b v hwn hstep hp hre' hrt =>
          refine exec_write hs hL hsig hrel0 hm hw ho hD hr' hwn hstep hp (fun x => S x ∨ x = i ∨ bitA A i x = true) (fun x hx => hx) fun a' w' ρ' hnn hw' => ?_
          have hm' := mid_write hs hm ho hD he hW hp hnn (h' := h1') fun j p g1 g2 g3 g4 => by
            rcases hre j p g1 g2 g3 g4 with g | ⟨g, g'⟩
            · exact .inl g
            · exact .inr ⟨hre' (p, j) g, g'⟩
          obtain ⟨r', D', lab', t', h', n', g1, g2, g3, g4, g5⟩ := evs_all (ρ0 := ρ0) (h0 := h0) (w0 := w0) hs r _ lab t1 h1' n1 ds1 hrt hvr hm'
          have hw2 := g5 _ _ _ _ hw'
          rw [← lst_set h1] at hw2
          exact any_order hs hsig hrel0 hQ f _ r' D' _ lab' t' h' n' ds1 ρ' a' w' hsz' hf' hL' g2 g3 g1 g4 hw2
      by_cases hD : D i
      · have hW : isW o.op = false := by
          cases hq : isW o.op with
          | false => rfl
          | true => exact absurd (hw.wr i o ho hD hq) hnl
        refine exec_pend hs hL hsig hm hw ho hD hnl hr' hW fun a' w' ρ' hw' => ?_
        rw [← lst_set h1] at hw'
        exact any_order hs hsig hrel0 hQ f _ rest D S lab t h n ds ρ' a' w' hsz' hf' hL' htr hv hne hm hw'
      · cases hv with
        | nil _ hall => exact absurd (hall i hilt) hD
        | ev => exact hne.elim
        | wr i0 o0 re r _ ho0 hW0 hD0 he0 hre0 hh0 hvr =>
          have hii : i = i0 := by
            refine Decidable.byContradiction fun hne' => ?_
            obtain ⟨x, hx1, hx2⟩ := hh0 i hilt hD hne'
            exact hx1 (hw.sub x (anc_ready hs hL ho hr' hx2))
          subst hii
          exact behind o0 re r ho0 htr hW0 hD0 he0 hre0 hvr
        | pair i1 j1 o1 p1 _ ho1 hp1 hWi hWj hDi hDj hij hei hej hre1 hc =>
          cases htr with
          | pair _ _ _ _ _ _ _ _ _ _ _ _ htr1 htr2 =>
            have last : ∀ (i j : Nat) (p : Oper), ops[j]? = some p → isW p.op = true → ¬ D j → i ≠ j → (∀ e ∈ p.after, Region.binds .any e = true → D e.on) → (∀ (k : Nat) (q : Oper), ops[k]? = some q → D k → isW q.op = false → readsB E q.op = true → bitA A j k = true) → (∀ k, k < ops.size → D k ∨ k = i ∨ k = j) → (∀ q, ops[i]? = some q → isW q.op = true) →
                Val E ops A [.wr j p []] (fun x => D x ∨ x = i) := by
              intro i j p hp hW hDj hij hej hre hc hWi
              refine .wr j p [] [] _ hp hW ?_ (fun e he hb => .inl (hej e he hb)) ?_ ?_ (.nil _ fun k hk => ?_)
              · rintro (h | h)
                · exact hDj h
                · exact hij h.symm
              · rintro k q hk (hDk | rfl) hWk hrk
                · exact .inl (hre k q hk hDk hWk hrk)
                · rw [hWi q hk] at hWk; cases hWk
              · intro k hk hnk hkj
                rcases hc k hk with g | g | g
                · exact absurd (.inl g) hnk
                · exact absurd (.inr g) hnk
                · exact absurd g hkj
              · rcases hc k hk with g | g | g
                · exact .inl (.inl g)
                · exact .inl (.inr g)
                · exact .inr g
            rcases hc i hilt with g | g | g
            · exact absurd g hD
            · subst g
              exact behind o1 [] _ ho1 htr1 hWi hDi hei (fun k q hk hDk hWk hrk => .inl (hre1 k q hk hDk hWk hrk).1) (last i j1 p1 hp1 hWj hDj hij hej (fun k q hk hDk hWk hrk => (hre1 k q hk hDk hWk hrk).2) hc (fun q hq => by rw [ho1] at hq; cases hq; exact hWi))
            · subst g
              exact behind p1 [] _ hp1 htr2 hWj hDj hej (fun k q hk hDk hWk hrk => .inl (hre1 k q hk hDk hWk hrk).2) (last i i1 o1 ho1 hWi hDi (Ne.symm hij) hei (fun k q hk hDk hWk hrk => (hre1 k q hk hDk hWk hrk).1) (fun k hk => (hc k hk).imp id fun e => e.symm) (fun q hq => by rw [hp1] at hq; cases hq; exact hWj))
end
end Go.Proofs.YtgedmmmgkfehjaaGreatDoor
