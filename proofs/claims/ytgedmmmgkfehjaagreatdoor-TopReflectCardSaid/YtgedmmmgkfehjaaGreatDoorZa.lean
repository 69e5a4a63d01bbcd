/- Plain laws of the reckoner's words: tries, lists, what is handed on. -/
import Derived.Test.YtgedmmmgkfehjaaGreatDoorRf
namespace Go.Proofs.YtgedmmmgkfehjaaGreatDoor

section
variable {α β γ : Type}
theorem ob_none (k : α → R β) : ob none k = none := rfl
theorem ob_just (a : α) (k : α → R β) : ob (some a) k = k a := rfl
theorem ob_some {o : Option α} {k : α → R β} {r : β} : ob o k = some r ↔ ∃ a, o = some a ∧ k a = some r := by
  cases o <;> simp [ob_none, ob_just]
theorem gd_true (x : R β) : gd true x = x := rfl
theorem gd_false (x : R β) : gd false x = none := rfl
theorem gd_some {b : Bool} {x : R β} {r : β} : gd b x = some r ↔ b = true ∧ x = some r := by
  cases b <;> simp [gd_true, gd_false]
theorem ifB_true (x y : γ) : ifB true x y = x := rfl
theorem ifB_false (x y : γ) : ifB false x y = y := rfl
theorem ifB_eq (b : Bool) (x y : γ) : ifB b x y = if b = true then x else y := by cases b <;> rfl
theorem listRec_nil (z : γ) (f : α → γ → γ) : listRec z f [] = z := rfl
theorem listRec_cons (z : γ) (f : α → γ → γ) (a : α) (l : List α) : listRec z f (a :: l) = f a (listRec z f l) := rfl
theorem forceN_eq (n : Nat) (k : Nat → R β) : forceN n k = k n := by cases n <;> rfl
theorem forceI_eq (n : Int) (k : Int → R β) : forceI n k = k n := by
  cases n with
  | ofNat n => exact forceN_eq n (fun n => k (.ofNat n))
  | negSucc n => exact forceN_eq n (fun n => k (.negSucc n))
theorem forceB_eq (b : Bool) (k : Bool → R β) : forceB b k = k b := by cases b <;> rfl
theorem forceL_eq (l : List AV) (k : List AV → R β) : forceL l k = k l := by
  induction l generalizing k with
  | nil => rfl
  | cons a l ih => exact ih fun l => k (a :: l)
theorem forceA_eq (v : AV) (k : AV → R β) : forceA v k = k v := by
  cases v <;> simp [forceA, forceI_eq, forceN_eq, forceB_eq]
end

namespace Tr
variable {α β : Type}
theorem rec_cond {γ : Type} (b : Bool) (x y : γ) : Bool.rec (motive := fun _ => γ) x y b = if b = true then y else x := by cases b <;> rfl
theorem get_nil (n : Nat) : (Tr.nil : Tr α).get n = none := rfl
theorem get_node (v : Option α) (l r : Tr α) (n : Nat) : (Tr.node v l r).get n = if n = 0 then v else if n % 2 = 1 then l.get ((n - 1) / 2) else r.get ((n - 1) / 2) := by
  show (Bool.rec (motive := fun _ => Option α) (Bool.rec (motive := fun _ => Nat → Option α) r.get l.get (Nat.beq (Nat.mod n 2) 1) (Nat.div (Nat.sub n 1) 2)) v (Nat.beq n 0)) = _
  rw [rec_cond, rec_cond]
  have h0 : (Nat.beq n 0 = true) = (n = 0) := by simp [Nat.beq_eq]
  have h1 : (Nat.beq (Nat.mod n 2) 1 = true) = (n % 2 = 1) := by simp [Nat.beq_eq]; rfl
  simp only [h0, h1]
  split
  · rfl
  · split <;> rfl
theorem get_one (v : Option α) (n : Nat) : (Tr.node v .nil .nil).get n = if n = 0 then v else none := by
  rw [get_node]; split <;> simp [get_nil]

theorem oneK_spec (a : Option α) : ∀ (k : Nat) (n : Nat) (c : Tr α → R β) (b : β), oneK a k n c = some b →
    ∃ t', c t' = some b ∧ ∀ m, t'.get m = if m = n then a else none := by
  intro k
  induction k with
  | zero => intro n c b h; cases h
  | succ k ih =>
    intro n c b h
    have h' : (if n = 0 then c (.node a .nil .nil) else oneK a k ((n - 1) / 2) (if n % 2 = 1 then (fun t => c (.node none t .nil)) else (fun t => c (.node none .nil t)))) = some b := by
      rw [← h]
      show _ = (Bool.rec (motive := fun _ => R β) (oneK a k (Nat.div (Nat.sub n 1) 2) (Bool.rec (motive := fun _ => Tr α → R β) (fun t => c (.node none .nil t)) (fun t => c (.node none t .nil)) (Nat.beq (Nat.mod n 2) 1))) (c (.node a .nil .nil)) (Nat.beq n 0))
      rw [rec_cond, rec_cond]
      have h0 : (Nat.beq n 0 = true) = (n = 0) := by simp [Nat.beq_eq]
      have h1 : (Nat.beq (Nat.mod n 2) 1 = true) = (n % 2 = 1) := by simp [Nat.beq_eq]; rfl
      simp only [h0, h1]
      rfl
    by_cases h0 : n = 0
    · rw [if_pos h0] at h'
      refine ⟨_, h', fun m => ?_⟩
      subst h0
      rw [get_one]
    · rw [if_neg h0] at h'
      by_cases h1 : n % 2 = 1
      · rw [if_pos h1] at h'
        obtain ⟨t', hc, ht⟩ := ih _ _ _ h'
        refine ⟨_, hc, fun m => ?_⟩
        rw [get_node]
        by_cases g0 : m = 0
        · subst g0; simp [Ne.symm h0]
        · by_cases g1 : m % 2 = 1
          · rw [if_neg g0, if_pos g1, ht]
            by_cases hm : m = n
            · subst hm; simp
            · have : (m - 1) / 2 ≠ (n - 1) / 2 := by omega
              simp [this, hm]
          · have : m ≠ n := by intro e; subst e; exact g1 h1
            simp [g0, g1, this, get_nil]
      · rw [if_neg h1] at h'
        obtain ⟨t', hc, ht⟩ := ih _ _ _ h'
        refine ⟨_, hc, fun m => ?_⟩
        rw [get_node]
        by_cases g0 : m = 0
        · subst g0; simp [Ne.symm h0]
        · by_cases g1 : m % 2 = 1
          · have : m ≠ n := by intro e; subst e; exact h1 g1
            simp [g0, g1, this, get_nil]
          · rw [if_neg g0, if_neg g1, ht]
            by_cases hm : m = n
            · subst hm; simp
            · have : (m - 1) / 2 ≠ (n - 1) / 2 := by omega
              simp [this, hm]

theorem setK_spec (a : Option α) : ∀ (t : Tr α) (n : Nat) (c : Tr α → R β) (b : β), setK a t n c = some b →
    ∃ t', c t' = some b ∧ ∀ m, t'.get m = if m = n then a else t.get m := by
  intro t
  induction t with
  | nil => intro n c b h; exact oneK_spec a 64 n c b h
  | node v l r ihl ihr =>
    intro n c b h
    have h' : (if n = 0 then c (.node a l r) else if n % 2 = 1 then setK a l ((n - 1) / 2) fun t => c (.node v t r) else setK a r ((n - 1) / 2) fun t => c (.node v l t)) = some b := by
      rw [← h]
      show _ = (Bool.rec (motive := fun _ => R β) (Bool.rec (motive := fun _ => R β) (setK a r (Nat.div (Nat.sub n 1) 2) fun t => c (.node v l t)) (setK a l (Nat.div (Nat.sub n 1) 2) fun t => c (.node v t r)) (Nat.beq (Nat.mod n 2) 1)) (c (.node a l r)) (Nat.beq n 0))
      rw [rec_cond, rec_cond]
      have h0 : (Nat.beq n 0 = true) = (n = 0) := by simp [Nat.beq_eq]
      have h1 : (Nat.beq (Nat.mod n 2) 1 = true) = (n % 2 = 1) := by simp [Nat.beq_eq]; rfl
      simp only [h0, h1]
      rfl
    by_cases h0 : n = 0
    · rw [if_pos h0] at h'
      refine ⟨_, h', fun m => ?_⟩
      subst h0
      rw [get_node, get_node]
      split <;> simp_all
    · rw [if_neg h0] at h'
      by_cases h1 : n % 2 = 1
      · rw [if_pos h1] at h'
        obtain ⟨t', hc, ht⟩ := ihl _ _ _ h'
        refine ⟨_, hc, fun m => ?_⟩
        rw [get_node, get_node]
        by_cases g0 : m = 0
        · subst g0; simp [Ne.symm h0]
        · by_cases g1 : m % 2 = 1
          · rw [if_neg g0, if_pos g1, if_neg g0, if_pos g1, ht]
            by_cases hm : m = n
            · subst hm; simp
            · have : (m - 1) / 2 ≠ (n - 1) / 2 := by omega
              simp [this, hm]
          · have : m ≠ n := by intro e; subst e; exact g1 h1
            simp [g0, g1, this]
      · rw [if_neg h1] at h'
        obtain ⟨t', hc, ht⟩ := ihr _ _ _ h'
        refine ⟨_, hc, fun m => ?_⟩
        rw [get_node, get_node]
        by_cases g0 : m = 0
        · subst g0; simp [Ne.symm h0]
        · by_cases g1 : m % 2 = 1
          · have : m ≠ n := by intro e; subst e; exact h1 g1
            simp [g0, g1, this]
          · rw [if_neg g0, if_neg g1, if_neg g0, if_neg g1, ht]
            by_cases hm : m = n
            · subst hm; simp
            · have : (m - 1) / 2 ≠ (n - 1) / 2 := by omega
              simp [this, hm]
end Tr

section
variable {α β : Type}
theorem fillK_spec : ∀ (l : List α) (t : Tr α) (n : Nat) (k : Tr α → R β) (b : β), fillK l t n k = some b →
    ∃ t', k t' = some b ∧ ∀ m, t'.get m = if n ≤ m ∧ m < n + l.length then l[m - n]? else t.get m := by
  intro l
  induction l with
  | nil =>
    intro t n k b h
    refine ⟨t, h, fun m => ?_⟩
    have : ¬ (n ≤ m ∧ m < n + ([] : List α).length) := by simp
    rw [if_neg this]
  | cons a l ih =>
    intro t n k b h
    have h' : Tr.setK (some a) t n (fun t => forceN (Nat.succ n) fun n => fillK l t n k) = some b := h
    simp only [forceN_eq] at h'
    obtain ⟨t1, h1, g1⟩ := Tr.setK_spec _ _ _ _ _ h'
    obtain ⟨t2, h2, g2⟩ := ih _ _ _ _ h1
    refine ⟨t2, h2, fun m => ?_⟩
    rw [g2, g1]
    by_cases hm : m = n
    · subst hm
      have h3 : ¬ (Nat.succ m ≤ m ∧ m < Nat.succ m + l.length) := by omega
      have h4 : m ≤ m ∧ m < m + (a :: l).length := by simp
      rw [if_neg h3, if_pos rfl, if_pos h4]
      simp
    · by_cases h3 : Nat.succ n ≤ m ∧ m < Nat.succ n + l.length
      · have h4 : n ≤ m ∧ m < n + (a :: l).length := by simp; omega
        rw [if_pos h3, if_pos h4]
        have : m - n = (m - Nat.succ n) + 1 := by omega
        rw [this, List.getElem?_cons_succ]
      · have h4 : ¬ (n ≤ m ∧ m < n + (a :: l).length) := by simp; omega
        rw [if_neg h3, if_neg hm, if_neg h4]
theorem fillK_nil (l : List α) (k : Tr α → R β) (b : β) (h : fillK l .nil 0 k = some b) : ∃ t', k t' = some b ∧ ∀ m, t'.get m = l[m]? := by
  obtain ⟨t', h1, h2⟩ := fillK_spec l _ _ _ _ h
  refine ⟨t', h1, fun m => ?_⟩
  rw [h2]
  split
  · simp
  · rename_i h3
    rw [Tr.get_nil, List.getElem?_eq_none (by omega)]

theorem lenL_eq (l : List α) : lenL l = l.length := by
  induction l with
  | nil => rfl
  | cons a l ih => exact congrArg Nat.succ ih
theorem nthL_eq (l : List α) (i : Nat) : nthL l i = l[i]? := by
  induction l generalizing i with
  | nil => rfl
  | cons a l ih =>
    cases i with
    | zero => rfl
    | succ i => exact ih i
end

theorem eqNats_iff : ∀ (a b : List Nat), eqNats a b = true ↔ a = b
  | [], b => by cases b <;> simp [eqNats, listRec_nil]
  | x :: a, [] => by simp [eqNats, listRec_cons]
  | x :: a, y :: b => by
    have h : eqNats (x :: a) (y :: b) = ifB (Nat.beq x y) (eqNats a b) false := rfl
    rw [h, ifB_eq]
    have ih := eqNats_iff a b
    by_cases hx : x = y
    · subst hx; simp [ih]
    · have : Nat.beq x y = false := by rw [← Bool.not_eq_true, Nat.beq_eq]; exact hx
      simp [this, hx]

theorem bytesOf_spec : ∀ (n : Nat) (t : Tr Nat) (o : Nat) (l : List Nat), bytesOf t o n = some l → l.length = n ∧ ∀ i, i < n → t.get (o + i) = l[i]?
  | 0, t, o, l, h => by
    have : some ([] : List Nat) = some l := h
    cases this
    exact ⟨rfl, fun i hi => by omega⟩
  | n + 1, t, o, l, h => by
    have h' : ob (t.get o) (fun b => ob (bytesOf t (Nat.succ o) n) fun l => some (b :: l)) = some l := h
    simp only [ob_some] at h'
    obtain ⟨b, hb, l', hl', he⟩ := h'
    cases he
    obtain ⟨h1, h2⟩ := bytesOf_spec n t (Nat.succ o) l' hl'
    refine ⟨by simp [h1], fun i hi => ?_⟩
    cases i with
    | zero => simpa using hb
    | succ i =>
      have := h2 i (by omega)
      rw [List.getElem?_cons_succ, ← this]
      congr 1; omega
theorem readN_spec : ∀ (n : Nat) (b : AO) (o : Nat) (l : List AV), readN b o n = some l → l.length = n ∧ ∀ i, i < n → cellAt b (o + i) = l[i]?
  | 0, b, o, l, h => by
    have : some ([] : List AV) = some l := h
    cases this
    exact ⟨rfl, fun i hi => by omega⟩
  | n + 1, b, o, l, h => by
    have h' : ob (cellAt b o) (fun v => ob (readN b (Nat.succ o) n) fun l => some (v :: l)) = some l := h
    simp only [ob_some] at h'
    obtain ⟨v, hv, l', hl', he⟩ := h'
    cases he
    obtain ⟨h1, h2⟩ := readN_spec n b (Nat.succ o) l' hl'
    refine ⟨by simp [h1], fun i hi => ?_⟩
    cases i with
    | zero => simpa using hv
    | succ i =>
      have := h2 i (by omega)
      rw [List.getElem?_cons_succ, ← this]
      congr 1; omega

theorem strOf_spec {l : List Nat} {v : AV} (h : strOf l = some v) : ∃ t, v = .str t 0 l.length ∧ ∀ i, t.get i = l[i]? := by
  unfold strOf at h
  obtain ⟨t, h1, h2⟩ := fillK_nil _ _ _ h
  rw [forceN_eq, lenL_eq] at h1
  cases h1
  exact ⟨t, rfl, h2⟩

theorem allOne_iff : ∀ (l : List AV), allOne l = true ↔ ∀ v ∈ l, v.one = true
  | [] => by simp [allOne, listRec_nil]
  | x :: l => by
    have h : allOne (x :: l) = ifB x.one (allOne l) false := rfl
    rw [h, ifB_eq]
    have ih := allOne_iff l
    cases hx : x.one <;> simp [hx, ih]

/-- what an operand is -/
noncomputable def ev (t : Tm) (x : Operand) : AV :=
  match x with
  | .tmp i => (t.get i).getD .bad
  | .const v => ofV v
  | .global _ => .bad
  | .func f => .func f []
section
variable {β : Type}
theorem evK_eq (t : Tm) (x : Operand) (k : AV → R β) : evK t x k = k (ev t x) := by
  cases x with
  | tmp i =>
    show (Option.rec (motive := fun _ => R β) (k .bad) k (t.get i)) = k ((t.get i).getD .bad)
    cases t.get i <;> rfl
  | const v => rfl
  | global g => rfl
  | func f => rfl
theorem evsK_eq (t : Tm) (l : List Operand) (k : List AV → R β) : evsK t l k = k (l.map (ev t)) := by
  induction l generalizing k with
  | nil => rfl
  | cons x l ih =>
    show (evK t x fun v => evsK t l fun vs => k (v :: vs)) = _
    rw [evK_eq, ih]
    rfl
theorem evPs_eq (t : Tm) (l : List (Nat × Operand)) (k : List (Nat × AV) → R β) : evPs t l k = k (l.map fun p => (p.1, ev t p.2)) := by
  induction l generalizing k with
  | nil => rfl
  | cons x l ih =>
    show (evK t x.2 fun v => evPs t l fun vs => k ((x.1, v) :: vs)) = _
    rw [evK_eq, ih]
    rfl

theorem asPtr_some {v : AV} {k : Nat → Nat → R β} {r : β} : asPtr v k = some r ↔ ∃ l o, v = .ptr l o ∧ k l o = some r := by
  cases v <;> simp [asPtr, and_assoc]
theorem asBool_some {v : AV} {k : Bool → R β} {r : β} : asBool' v k = some r ↔ ∃ b, v = .bool b ∧ k b = some r := by
  cases v <;> simp [asBool']
theorem asAgg_some {v : AV} {k : List AV → R β} {r : β} : asAgg' v k = some r ↔ ∃ xs, v = .agg xs ∧ k xs = some r := by
  cases v <;> simp [asAgg']
theorem asTup_some {v : AV} {k : List AV → R β} {r : β} : asTup v k = some r ↔ ∃ xs, v = .tup xs ∧ k xs = some r := by
  cases v <;> simp [asTup]
theorem asMap_some {v : AV} {k : Nat → R β} {r : β} : asMap v k = some r ↔ ∃ l, v = .map l ∧ k l = some r := by
  cases v <;> simp [asMap]
theorem asNat_some {v : AV} {k : Nat → R β} {r : β} : asNat v k = some r ↔ ∃ q n, v = .int q (.ofNat n) ∧ k n = some r := by
  cases v with
  | int q i =>
    cases i with
    | ofNat n =>
      constructor
      · intro h; exact ⟨q, n, rfl, h⟩
      · rintro ⟨q', n', he, h⟩; cases he; exact h
    | negSucc n => exact ⟨fun h => (by cases h), fun ⟨_, _, he, _⟩ => (by cases he)⟩
  | _ => exact ⟨fun h => (by cases h), fun ⟨_, _, he, _⟩ => (by cases he)⟩
theorem asStr_some {v : AV} {k : Tr Nat → Nat → Nat → R β} {r : β} : asStr v k = some r ↔ ∃ t o n, v = .str t o n ∧ k t o n = some r := by
  cases v <;> simp [asStr, and_assoc]
theorem asFunc_some {v : AV} {k : FuncId → List AV → R β} {r : β} : asFunc v k = some r ↔ ∃ f xs, v = .func f xs ∧ k f xs = some r := by
  cases v <;> simp [asFunc, and_assoc]
theorem asSl_some {v : AV} {k : Nat → Nat → Nat → Option Nat → R β} {r : β} : asSl v k = some r ↔ ∃ l o n c, v = .sl l o n c ∧ k l o n c = some r := by
  cases v <;> simp [asSl, and_assoc]
end
end Go.Proofs.YtgedmmmgkfehjaaGreatDoor
