/- A region whose order is drawn: what the reckoner asks of its text, and what it has reckoned. A region whose order is drawn: the reckoner's own checks say that its plan keeps the edges. -/
import Derived.Test.YtgedmmmgkfehjaaGreatDoorZi4
namespace Go.Proofs.YtgedmmmgkfehjaaGreatDoor

/-! ### what lies before -/
theorem ancs_snoc (l : List Oper) (o : Oper) : ancs (l ++ [o]) = ancs l ++ [o.after.toList.foldl (fun s e => ifB (Region.binds .any e) (s ||| 2 ^ e.on ||| (ancs l).getD e.on 0) s) 0] := by
  unfold ancs
  rw [List.foldl_append]
  rfl
theorem fold_bits (acc : List Nat) (x : Nat) : ∀ (es : List Edge) (s : Nat), (es.foldl (fun s e => ifB (Region.binds .any e) (s ||| 2 ^ e.on ||| acc.getD e.on 0) s) s).testBit x = true → s.testBit x = true ∨ ∃ e ∈ es, Region.binds .any e = true ∧ (e.on = x ∨ (acc.getD e.on 0).testBit x = true)
  | [], s, h => .inl h
  | e :: es, s, h => by
    rcases fold_bits acc x es _ h with h1 | ⟨e', he, h1⟩
    · cases hb : Region.binds .any e with
      | false =>
        dsimp only at h1
        rw [hb, ifB_false] at h1
        exact .inl h1
      | true =>
        dsimp only at h1
        rw [hb, ifB_true] at h1
        simp only [Nat.testBit_or, Nat.testBit_two_pow, Bool.or_eq_true, decide_eq_true_eq] at h1
        rcases h1 with (h1 | h1) | h1
        · exact .inl h1
        · exact .inr ⟨e, by simp, hb, .inl h1⟩
        · exact .inr ⟨e, by simp, hb, .inr h1⟩
    · exact .inr ⟨e', by simp [he], h1⟩
theorem ancs_spec (l : List Oper) : (ancs l).length = l.length ∧ ∀ i x, ((ancs l).getD i 0).testBit x = true → ∃ o, l[i]? = some o ∧ ∃ e ∈ o.after, Region.binds .any e = true ∧ (e.on = x ∨ ((ancs l).getD e.on 0).testBit x = true) := by
  suffices h : ∀ r : List Oper, (ancs r.reverse).length = r.reverse.length ∧ ∀ i x, ((ancs r.reverse).getD i 0).testBit x = true → ∃ o, r.reverse[i]? = some o ∧ ∃ e ∈ o.after, Region.binds .any e = true ∧ (e.on = x ∨ ((ancs r.reverse).getD e.on 0).testBit x = true) by
    have := h l.reverse
    rwa [List.reverse_reverse] at this
  intro r
  induction r with
  | nil =>
    refine ⟨rfl, fun i x h => ?_⟩
    have : (ancs ([] : List Oper).reverse).getD i 0 = 0 := rfl
    rw [this] at h
    simp at h
  | cons o r ih =>
    obtain ⟨ih1, ih2⟩ := ih
    rw [List.reverse_cons, ancs_snoc]
    refine ⟨by simp [ih1], fun i x h => ?_⟩
    have low : ∀ j, ((ancs r.reverse).getD j 0).testBit x = true → ((ancs r.reverse ++ [o.after.toList.foldl (fun s e => ifB (Region.binds .any e) (s ||| 2 ^ e.on ||| (ancs r.reverse).getD e.on 0) s) 0]).getD j 0).testBit x = true := by
      intro j hj
      by_cases hlt : j < (ancs r.reverse).length
      · rw [List.getD_eq_getElem?_getD, List.getElem?_append_left hlt, ← List.getD_eq_getElem?_getD]
        exact hj
      · rw [List.getD_eq_getElem?_getD, List.getElem?_eq_none (by omega)] at hj
        simp at hj
    by_cases hlt : i < (ancs r.reverse).length
    · rw [List.getD_eq_getElem?_getD, List.getElem?_append_left hlt, ← List.getD_eq_getElem?_getD] at h
      obtain ⟨o', ho', e, he, hb, hx⟩ := ih2 i x h
      refine ⟨o', ?_, e, he, hb, hx.imp id (low e.on)⟩
      rw [List.getElem?_append_left (by omega)]
      exact ho'
    · by_cases heq : i = (ancs r.reverse).length
      · subst heq
        rw [List.getD_eq_getElem?_getD, List.getElem?_append_right (Nat.le_refl _)] at h
        simp only [Nat.sub_self, List.getElem?_cons_zero, Option.getD_some] at h
        rcases fold_bits _ x _ _ h with h1 | ⟨e, he, hb, hx⟩
        · simp at h1
        · refine ⟨o, ?_, e, by simpa using he, hb, hx.imp id (low e.on)⟩
          rw [ih1, List.getElem?_append_right (Nat.le_refl _)]
          simp
      · rw [List.getD_eq_getElem?_getD, List.getElem?_eq_none (by simp; omega)] at h
        simp at h

/-! ### the checks -/
theorem zip_mem {ops : Array Oper} {i : Nat} {o : Oper} (h : ops[i]? = some o) : (o, i) ∈ ops.toList.zipIdx := by
  rw [List.mem_zipIdx_iff_getElem?]
  simpa using h
theorem zip_get {ops : Array Oper} {x : Oper × Nat} (h : x ∈ ops.toList.zipIdx) : ops[x.2]? = some x.1 := by
  have := List.mem_zipIdx_iff_getElem?.1 h
  simpa using this

theorem onceD_spec {ops : Array Oper} (h : onceD ops.toList.zipIdx = true) : ∀ (i j : Nat) (o p : Oper) (d : Tmp), ops[i]? = some o → ops[j]? = some p → o.dst = some d → p.dst = some d → i = j := by
  have main : ∀ (l : List (Oper × Nat)), onceD l = true → ∀ x ∈ l, ∀ y ∈ l, ∀ d, x.1.dst = some d → y.1.dst = some d → x = y := by
    intro l
    induction l with
    | nil => intro _ x hx; cases hx
    | cons z l ih =>
      intro h x hx y hy d hxd hyd
      simp only [onceD, Bool.and_eq_true] at h
      obtain ⟨h1, h2⟩ := h
      have hz : ∀ y ∈ l, z.1.dst = some d → y.1.dst ≠ some d := by
        intro y hy hzd
        rw [hzd] at h1
        simp only [Option.all_some, List.all_eq_true, bne_iff_ne, ne_eq] at h1
        exact h1 y hy
      cases hx with
      | head =>
        cases hy with
        | head => rfl
        | tail _ hy => exact absurd hyd (hz y hy hxd)
      | tail _ hx =>
        cases hy with
        | head => exact absurd hxd (hz x hx hyd)
        | tail _ hy => exact ih h2 x hx y hy d hxd hyd
  intro i j o p d hi hj ho hp
  have := main _ h (o, i) (zip_mem hi) (p, j) (zip_mem hj) d ho hp
  exact (Prod.mk.inj this).2

/-- the items are the region's own -/
def OkPI (ops : Array Oper) : PI → Prop
  | .ev i o => ops[i]? = some o
  | .wr i o re => ops[i]? = some o ∧ ∀ x ∈ re, ops[x.2]? = some x.1
  | .pair i j o p => ops[i]? = some o ∧ ops[j]? = some p
theorem planGo_ok {E : Env} {ops : Array Oper} {A : List Nat} {ws : List (Oper × Nat)} : ∀ (l : List (Oper × Nat)) (k : Nat), (∀ x ∈ l, ops[x.2]? = some x.1) → ∀ it ∈ planGo E A ops.toList.zipIdx ws l k, OkPI ops it
  | [], k, _, it, hit => by
    simp only [planGo, List.mem_map] at hit
    obtain ⟨x, hx, rfl⟩ := hit
    exact zip_get (List.mem_filter.1 hx).1
  | w :: r, k, hl, it, hit => by
    have hr : ∀ x ∈ r, ops[x.2]? = some x.1 := fun x hx => hl x (by simp [hx])
    have hre : ∀ (f : Oper × Nat → Bool), ∀ x ∈ ops.toList.zipIdx.filter f, ops[x.2]? = some x.1 := fun f x hx => zip_get (List.mem_filter.1 hx).1
    have rest : ∀ re, (∀ x ∈ re, ops[x.2]? = some x.1) → it ∈ (.wr w.2 w.1 re :: planGo E A ops.toList.zipIdx ws r (k + 1)) → OkPI ops it := by
      intro re hre hit
      cases hit with
      | head => exact ⟨hl w (by simp), hre⟩
      | tail _ hit => exact planGo_ok r (k + 1) hr it hit
    simp only [planGo, List.mem_append] at hit
    rcases hit with hit | hit
    · rw [List.mem_map] at hit
      obtain ⟨x, hx, rfl⟩ := hit
      exact zip_get (List.mem_filter.1 hx).1
    · split at hit
      · rename_i w'
        rw [ifB_eq] at hit
        split at hit
        · exact rest _ (hre _) hit
        · simp only [List.mem_singleton] at hit
          subst hit
          exact ⟨hl w (by simp), hr w' (by simp)⟩
      · exact rest _ (hre _) hit

theorem bits_set (D i : Nat) : (fun x => (D ||| 2 ^ i).testBit x = true) = fun x => D.testBit x = true ∨ x = i := by
  funext x
  apply propext
  simp only [Nat.testBit_or, Nat.testBit_two_pow, Bool.or_eq_true, decide_eq_true_eq]
  constructor
  · rintro (h | h)
    · exact .inl h
    · exact .inr h.symm
  · rintro (h | h)
    · exact .inl h
    · exact .inr h.symm
theorem bits_not {D i x : Nat} (h : ¬ (D ||| 2 ^ i).testBit x = true) : ¬ D.testBit x = true := by
  intro e
  apply h
  simp [Nat.testBit_or, e]
theorem bits_all {D s : Nat} (h : Nat.beq D (2 ^ s - 1) = true) (i : Nat) (hi : i < s) : D.testBit i = true := by
  rw [Nat.beq_eq] at h
  subst h
  simp [Nat.testBit_two_pow_sub_one, hi]

section
variable {E : Env} {ops : Array Oper} {A : List Nat}
theorem edgesIn_spec {D : Nat} {o : Oper} (h : edgesIn D o = true) : ∀ e ∈ o.after, Region.binds .any e = true → D.testBit e.on = true := by
  intro e he hb
  have := List.all_eq_true.1 h e (by simpa using he)
  rw [hb] at this
  simpa using this
/-- what is still to come waits for what comes next -/
theorem chk_head : ∀ (l : List PI) (D : Nat) (last : Option Nat), chk E ops A l D last = true → ∀ j, j < ops.size → ¬ D.testBit j = true → lastOK A last j = true ∨ ∃ w, ¬ D.testBit w = true ∧ bitA A j w = true
  | [], D, last, h, j, hj, hD => by
    exact absurd (bits_all h j hj) hD
  | .ev i o :: r, D, last, h, j, hj, hD => by
    simp only [chk, Bool.and_eq_true] at h
    obtain ⟨⟨⟨⟨⟨h1, h2⟩, h3⟩, h4⟩, h5⟩, h6⟩ := h
    by_cases hji : j = i
    · subst hji; exact .inl h4
    · have hD' : ¬ (D ||| 2 ^ i).testBit j = true := by
        rw [show ((D ||| 2 ^ i).testBit j = true) = (D.testBit j = true ∨ j = i) from congrFun (bits_set D i) j]
        rintro (e | e)
        · exact hD e
        · exact hji e
      rcases chk_head r _ last h6 j hj hD' with g | ⟨w, g1, g2⟩
      · exact .inl g
      · exact .inr ⟨w, bits_not g1, g2⟩
  | .wr i o re :: r, D, last, h, j, hj, hD => by
    simp only [chk, Bool.and_eq_true] at h
    obtain ⟨⟨⟨⟨⟨⟨h1, h2⟩, h3⟩, h4⟩, h5⟩, h7⟩, h6⟩ := h
    by_cases hji : j = i
    · subst hji; exact .inl h4
    · have hD' : ¬ (D ||| 2 ^ i).testBit j = true := by
        rw [show ((D ||| 2 ^ i).testBit j = true) = (D.testBit j = true ∨ j = i) from congrFun (bits_set D i) j]
        rintro (e | e)
        · exact hD e
        · exact hji e
      rcases chk_head r _ (some i) h6 j hj hD' with g | ⟨w, g1, g2⟩
      · exact .inr ⟨i, by simpa using h2, by simpa [lastOK] using g⟩
      · exact .inr ⟨w, bits_not g1, g2⟩
  | .pair i k o p :: r, D, last, h, j, hj, hD => by
    simp only [chk, Bool.and_eq_true] at h
    obtain ⟨⟨⟨⟨⟨⟨⟨⟨⟨⟨⟨⟨⟨⟨⟨⟨h1, h2⟩, h3⟩, h4⟩, h5⟩, h6⟩, h7⟩, h8⟩, h9⟩, h10⟩, h11⟩, h12⟩, h13⟩, h14⟩, h15⟩, h16⟩, h17⟩ := h
    have := bits_all h17 j hj
    simp only [Nat.testBit_or, Nat.testBit_two_pow, Bool.or_eq_true, decide_eq_true_eq] at this
    rcases this with (g | g) | g
    · exact absurd g hD
    · subst g; exact .inl h7
    · subst g; exact .inl h8
/-- each operation's slots are looked over -/
theorem chk_looks : ∀ (l : List PI) (D : Nat) (last : Option Nat), (∀ it ∈ l, OkPI ops it) → chk E ops A l D last = true → ∀ j o, ops[j]? = some o → ¬ D.testBit j = true → looksOK ops A j o = true
  | [], D, last, hok, h, j, o, hj, hD => absurd (bits_all h j (Array.getElem?_eq_some_iff.1 hj).1) hD
  | .ev i o' :: r, D, last, hok, h, j, o, hj, hD => by
    simp only [chk, Bool.and_eq_true] at h
    obtain ⟨⟨⟨⟨⟨h1, h2⟩, h3⟩, h4⟩, h5⟩, h6⟩ := h
    by_cases hji : j = i
    · subst hji
      have := hok _ (by simp : PI.ev j o' ∈ _)
      have e : ops[j]? = some o' := this
      rw [hj] at e
      cases e
      exact h5
    · have hD' : ¬ (D ||| 2 ^ i).testBit j = true := by
        rw [show ((D ||| 2 ^ i).testBit j = true) = (D.testBit j = true ∨ j = i) from congrFun (bits_set D i) j]
        rintro (e | e)
        · exact hD e
        · exact hji e
      exact chk_looks r _ last (fun it hit => hok it (by simp [hit])) h6 j o hj hD'
  | .wr i o' re :: r, D, last, hok, h, j, o, hj, hD => by
    simp only [chk, Bool.and_eq_true] at h
    obtain ⟨⟨⟨⟨⟨⟨h1, h2⟩, h3⟩, h4⟩, h5⟩, h7⟩, h6⟩ := h
    by_cases hji : j = i
    · subst hji
      have e : ops[j]? = some o' := (hok _ (by simp : PI.wr j o' re ∈ _)).1
      rw [hj] at e
      cases e
      exact h5
    · have hD' : ¬ (D ||| 2 ^ i).testBit j = true := by
        rw [show ((D ||| 2 ^ i).testBit j = true) = (D.testBit j = true ∨ j = i) from congrFun (bits_set D i) j]
        rintro (e | e)
        · exact hD e
        · exact hji e
      exact chk_looks r _ (some i) (fun it hit => hok it (by simp [hit])) h6 j o hj hD'
  | .pair i k o' p :: r, D, last, hok, h, j, o, hj, hD => by
    simp only [chk, Bool.and_eq_true] at h
    obtain ⟨⟨⟨⟨⟨⟨⟨⟨⟨⟨⟨⟨⟨⟨⟨⟨h1, h2⟩, h3⟩, h4⟩, h5⟩, h6⟩, h7⟩, h8⟩, h9⟩, h10⟩, h11⟩, h12⟩, h13⟩, h14⟩, h15⟩, h16⟩, h17⟩ := h
    obtain ⟨e1, e2⟩ : ops[i]? = some o' ∧ ops[k]? = some p := hok _ (by simp : PI.pair i k o' p ∈ _)
    have := bits_all h17 j (Array.getElem?_eq_some_iff.1 hj).1
    simp only [Nat.testBit_or, Nat.testBit_two_pow, Bool.or_eq_true, decide_eq_true_eq] at this
    rcases this with (g | g) | g
    · exact absurd g hD
    · subst g
      rw [hj] at e1
      cases e1
      exact h9
    · subst g
      rw [hj] at e2
      cases e2
      exact h10
end
end Go.Proofs.YtgedmmmgkfehjaaGreatDoor

namespace Go.Proofs.YtgedmmmgkfehjaaGreatDoor

section
variable {E : Env} {ops : Array Oper} {A : List Nat}

theorem looksAnc_spec {j : Nat} {p : Oper} (h : looksAnc ops A j p = true) : ∀ d ∈ p.looksAt ops, ∀ (k : Nat) (q : Oper), ops[k]? = some q → q.dst = some d → k ≠ j ∧ bitA A j k = true := by
  intro d hd k q hk hq
  have h1 := List.all_eq_true.1 h d hd
  have h2 := List.all_eq_true.1 h1 (q, k) (zip_mem hk)
  simpa [hq] using h2
theorem looksOK_spec {i : Nat} {o : Oper} (h : looksOK ops A i o = true) : ∀ d ∈ o.looksAt ops, ∀ (j : Nat) (p : Oper), ops[j]? = some p → p.dst = some d → j ≠ i → bitA A i j = true ∨ bitA A j i = true := by
  intro d hd j p hj hp hji
  have h1 := List.all_eq_true.1 h d hd
  have h2 := List.all_eq_true.1 h1 (p, j) (zip_mem hj)
  simpa [hp, hji] using h2
theorem reOK_spec {D i : Nat} {re : List (Oper × Nat)} (hre : ∀ x ∈ re, ops[x.2]? = some x.1) (h : reOK E ops A D i re = true) : ∀ (j : Nat) (p : Oper), ops[j]? = some p → D.testBit j = true → isW p.op = false → readsB E p.op = true →
    bitA A i j = true ∨ ((p, j) ∈ re ∧ ∀ d ∈ p.looksAt ops, ∀ (k : Nat) (q : Oper), ops[k]? = some q → q.dst = some d → k ≠ j ∧ bitA A j k = true) := by
  intro j p hj hD hW hr
  have h2 := List.all_eq_true.1 h (p, j) (zip_mem hj)
  cases hb : bitA A i j with
  | true => exact .inl rfl
  | false =>
    refine .inr ?_
    simp only [hD, hr, hb, Bool.not_false, Bool.and_self, Bool.not_true, Bool.false_or, Bool.and_eq_true] at h2
    obtain ⟨h3, h4⟩ := h2
    refine ⟨?_, looksAnc_spec h4⟩
    obtain ⟨y, hy, hyj⟩ := List.any_eq_true.1 h3
    have hyj' : y.2 = j := by simpa using hyj
    have := hre y hy
    rw [hyj', hj] at this
    cases this
    obtain ⟨y1, y2⟩ := y
    subst hyj'
    exact hy

theorem chk_val : ∀ (l : List PI) (D : Nat) (last : Option Nat), (∀ it ∈ l, OkPI ops it) → (∀ i j o p, PI.pair i j o p ∈ l → isW o.op = true ∧ isW p.op = true) → chk E ops A l D last = true → Val E ops A l fun x => D.testBit x = true
  | [], D, last, hok, hpw, h => .nil _ (bits_all h)
  | .ev i o :: r, D, last, hok, hpw, h => by
    have hi : ops[i]? = some o := hok _ (by simp : PI.ev i o ∈ _)
    simp only [chk, Bool.and_eq_true] at h
    obtain ⟨⟨⟨⟨⟨h1, h2⟩, h3⟩, h4⟩, h5⟩, h6⟩ := h
    have ih := chk_val r _ last (fun it hit => hok it (by simp [hit])) (fun i j o p hm => hpw i j o p (by simp [hm])) h6
    rw [bits_set] at ih
    exact .ev i o r _ hi (by simpa using h1) (by simpa using h2) (edgesIn_spec h3) ih
  | .wr i o re :: r, D, last, hok, hpw, h => by
    obtain ⟨hi, hre⟩ : ops[i]? = some o ∧ ∀ x ∈ re, ops[x.2]? = some x.1 := hok _ (by simp : PI.wr i o re ∈ _)
    simp only [chk, Bool.and_eq_true] at h
    obtain ⟨⟨⟨⟨⟨⟨h1, h2⟩, h3⟩, h4⟩, h5⟩, h7⟩, h6⟩ := h
    have ih := chk_val r _ (some i) (fun it hit => hok it (by simp [hit])) (fun i j o p hm => hpw i j o p (by simp [hm])) h6
    rw [bits_set] at ih
    refine .wr i o re r _ hi h1 (by simpa using h2) (edgesIn_spec h3) (reOK_spec hre h7) (fun j hj hD hji => ?_) ih
    have hD' : ¬ (D ||| 2 ^ i).testBit j = true := by
      rw [show ((D ||| 2 ^ i).testBit j = true) = (D.testBit j = true ∨ j = i) from congrFun (bits_set D i) j]
      rintro (e | e)
      · exact hD e
      · exact hji e
    rcases chk_head r _ (some i) h6 j hj hD' with g | ⟨w, g1, g2⟩
    · exact ⟨i, by simpa using h2, by simpa [lastOK] using g⟩
    · exact ⟨w, bits_not g1, g2⟩
  | .pair i k o p :: r, D, last, hok, hpw, h => by
    obtain ⟨hi, hk⟩ : ops[i]? = some o ∧ ops[k]? = some p := hok _ (by simp : PI.pair i k o p ∈ _)
    obtain ⟨hwi, hwk⟩ := hpw i k o p (by simp)
    simp only [chk, Bool.and_eq_true] at h
    obtain ⟨⟨⟨⟨⟨⟨⟨⟨⟨⟨⟨⟨⟨⟨⟨⟨h1, h2⟩, h3⟩, h4⟩, h5⟩, h6⟩, h7⟩, h8⟩, h9⟩, h10⟩, h11⟩, h12⟩, h13⟩, h14⟩, h15⟩, h16⟩, h17⟩ := h
    have hr : r = [] := by simpa using h1
    subst hr
    have one : ∀ x, (reOK E ops A D x [] = true) → ∀ (j : Nat) (q : Oper), ops[j]? = some q → D.testBit j = true → isW q.op = false → readsB E q.op = true → bitA A x j = true := by
      intro x hx j q hj hD hW hq
      rcases reOK_spec (re := []) (fun x hx => by cases hx) hx j q hj hD hW hq with g | ⟨g, _⟩
      · exact g
      · cases g
    refine .pair i k o p _ hi hk hwi hwk (by simpa using h3) (by simpa using h4) (by simpa using h2) (edgesIn_spec h5) (edgesIn_spec h6) (fun j q hj hD hW hq => ⟨one i h15 j q hj hD hW hq, one k h16 j q hj hD hW hq⟩) fun j hj => ?_
    have := bits_all h17 j hj
    simp only [Nat.testBit_or, Nat.testBit_two_pow, Bool.or_eq_true, decide_eq_true_eq] at this
    rcases this with (g | g) | g
    · exact .inl g
    · exact .inr (.inl g.symm)
    · exact .inr (.inr g.symm)

theorem planGo_w : ∀ (l : List (Oper × Nat)) (k : Nat) {Z ws : List (Oper × Nat)}, (∀ x ∈ l, isW x.1.op = true) → ∀ i j o p, PI.pair i j o p ∈ planGo E A Z ws l k → isW o.op = true ∧ isW p.op = true
  | [], k, Z, ws, _, i, j, o, p, hit => by
    simp only [planGo, List.mem_map] at hit
    obtain ⟨x, hx, e⟩ := hit
    cases e
  | w :: r, k, Z, ws, hl, i, j, o, p, hit => by
    have hr : ∀ x ∈ r, isW x.1.op = true := fun x hx => hl x (by simp [hx])
    simp only [planGo, List.mem_append] at hit
    rcases hit with hit | hit
    · rw [List.mem_map] at hit
      obtain ⟨x, hx, e⟩ := hit
      cases e
    · have rest : ∀ re, PI.pair i j o p ∈ (.wr w.2 w.1 re :: planGo E A Z ws r (k + 1)) → isW o.op = true ∧ isW p.op = true := by
        intro re hit
        cases hit with
        | tail _ hit => exact planGo_w r (k + 1) hr i j o p hit
      split at hit
      · rename_i w'
        rw [ifB_eq] at hit
        split at hit
        · exact rest _ hit
        · simp only [List.mem_singleton] at hit
          cases hit
          exact ⟨hl w (by simp), hr w' (by simp)⟩
      · exact rest _ hit

/-- the plan keeps the edges -/
theorem planC_ok {l : List PI} (h : planC E ops = some l) : Stat ops (ancs ops.toList) ∧ Val E ops (ancs ops.toList) l fun _ => False := by
  unfold planC at h
  simp only [gd_some, Option.some.injEq] at h
  obtain ⟨h1, h2, h3, rfl⟩ := h
  have hall : ∀ x ∈ ops.toList.zipIdx.filter (fun x => isW x.1.op), ops[x.2]? = some x.1 := fun x hx => zip_get (List.mem_filter.1 hx).1
  have hok : ∀ it ∈ plan E ops (ancs ops.toList), OkPI ops it := planGo_ok _ _ hall
  have hw : ∀ x ∈ ops.toList.zipIdx.filter (fun x => isW x.1.op), isW x.1.op = true := fun x hx => (List.mem_filter.1 hx).2
  refine ⟨⟨?_, onceD_spec h2, ?_, ?_⟩, ?_⟩
  · intro i o ho e he hb
    have g := List.all_eq_true.1 h1 (o, i) (zip_mem ho)
    have g' := List.all_eq_true.1 g e (by simpa using he)
    simpa [hb] using g'
  · intro i x hx
    obtain ⟨o, ho, e, he, hb, hh⟩ := (ancs_spec ops.toList).2 i x hx
    exact ⟨o, by simpa using ho, e, he, hb, hh⟩
  · intro i o ho
    exact looksOK_spec (chk_looks _ 0 none hok h3 i o ho (by simp))
  · have := chk_val _ 0 none hok (fun i j o p hm => planGo_w _ _ hw i j o p hm) h3
    have e : (fun x => (0 : Nat).testBit x = true) = fun _ => False := by
      funext x
      simp
    rwa [e] at this
end
end Go.Proofs.YtgedmmmgkfehjaaGreatDoor
