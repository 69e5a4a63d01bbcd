/- Laws of reading, on lists: greater allowances, limits, what is read is right, only kinds and texts matter. -/
import Derived.Test.YtfpiogaakblpeaaDoorParM
namespace Go.Proofs.YtfpiogaakblpeaaDoor
open Go.RowKit

/-- what greater allowances leave -/
def Under {α : Type} : Res α → Res α → Prop
  | .ok a k n, y => y = .ok a k n
  | .bad k .parse, y => y = .bad k .parse
  | .bad _ .deep, _ => True
  | .bad _ .nodes, _ => True

structure LeE (E F : PEnv) : Prop where
  l : F.l = E.l
  d : ∀ n, E.dOK n = true → F.dOK n = true
  n : ∀ n, E.nOK n = true → F.nOK n = true

theorem kidsM_under {f g : Nat → Nat → Res DT} (h : ∀ k n, Under (f k n) (g k n)) : ∀ (c k n : Nat) (acc : List DT), Under (kidsM f c k n acc) (kidsM g c k n acc)
  | 0, k, n, acc => by simp [kidsM, Under]
  | c + 1, k, n, acc => by
    have h1 := h k n
    unfold kidsM
    cases hq : f k n with
    | bad k' y =>
      rw [hq] at h1
      cases y with
      | parse => simp only [Under] at h1; rw [h1]; simp [Under]
      | deep => simp [Under]
      | nodes => simp [Under]
    | ok d k' n' =>
      rw [hq] at h1
      simp only [Under] at h1
      rw [h1]
      exact kidsM_under h c k' n' _

theorem closeM_under {l : List Tok} {r i : Int} {x y : Res (List DT)} (h : Under x y) : Under (closeM l r i x) (closeM l r i y) := by
  cases x with
  | bad k q =>
    cases q with
    | parse => simp only [Under] at h; rw [h]; simp [closeM, Under]
    | deep => simp [closeM, Under]
    | nodes => simp [closeM, Under]
  | ok ks k n =>
    simp only [Under] at h
    rw [h]
    simp only [closeM]
    split <;> simp [Under]

theorem derivM_under {E F : PEnv} (h : LeE E F) : ∀ (f deep k n : Nat), Under (derivM E f deep k n) (derivM F f deep k n)
  | 0, _, _, _ => by simp [derivM, Under]
  | f + 1, deep, k, n => by
    unfold derivM
    rw [h.l]
    by_cases h1 : kindAt E.l k ≠ 1
    · rw [if_pos h1, if_pos h1]; simp [Under]
    rw [if_neg h1, if_neg h1]
    cases h2 : E.dOK deep
    · simp [Under]
    rw [h.d _ h2]
    cases h3 : E.nOK (n + 1)
    · simp [Under]
    rw [h.n _ h3]
    simp only [Bool.true_eq_false, if_false]
    by_cases h4 : kindAt E.l (k + 1) ≠ 3 ∨ ruleI (textAt E.l (k + 1)) = 0
    · rw [if_pos h4, if_pos h4]; simp [Under]
    rw [if_neg h4, if_neg h4]
    by_cases h5 : ruleI (textAt E.l (k + 1)) = 1 ∨ ruleI (textAt E.l (k + 1)) = 2
    · rw [if_pos h5, if_pos h5]
      by_cases h6 : kindAt E.l (k + 2) ≠ 4
      · rw [if_pos h6]; simp [Under]
      rw [if_neg h6]
      exact closeM_under (by simp [Under])
    · rw [if_neg h5, if_neg h5]
      exact closeM_under (kidsM_under (fun k n => derivM_under h f (deep + 1) k n) _ _ _ _)

theorem ctxM_under {f g : Nat → Nat → Res DT} {l : List Tok} (h : ∀ k n, Under (f k n) (g k n)) : ∀ (c k n : Nat) (acc : List DT), Under (ctxM f l c k n acc) (ctxM g l c k n acc)
  | 0, k, n, acc => by simp [ctxM, Under]
  | c + 1, k, n, acc => by
    have h1 := h k n
    unfold ctxM
    by_cases h0 : kindAt l k = 2
    · rw [if_pos h0, if_pos h0]; simp [Under]
    rw [if_neg h0, if_neg h0]
    cases hq : f k n with
    | bad k' y =>
      rw [hq] at h1
      cases y with
      | parse => simp only [Under] at h1; rw [h1]; simp [Under]
      | deep => simp [Under]
      | nodes => simp [Under]
    | ok d k' n' =>
      rw [hq] at h1
      simp only [Under] at h1
      rw [h1]
      exact ctxM_under h c k' n' _

theorem restM_under {f g : Nat → Nat → Res DT} {l : List Tok} (h : ∀ k n, Under (f k n) (g k n)) {x y : Res (List DT)} (hx : Under x y) : Under (restM f l x) (restM g l y) := by
  cases x with
  | bad k q =>
    cases q with
    | parse => simp only [Under] at hx; rw [hx]; simp [restM, Under]
    | deep => simp [restM, Under]
    | nodes => simp [restM, Under]
  | ok cs k n =>
    simp only [Under] at hx
    rw [hx]
    have h1 := h (k + 1) n
    simp only [restM]
    cases hq : f (k + 1) n with
    | bad k' y =>
      rw [hq] at h1
      cases y with
      | parse => simp only [Under] at h1; rw [h1]; simp [Under]
      | deep => simp [Under]
      | nodes => simp [Under]
    | ok d k' n' =>
      rw [hq] at h1
      simp only [Under] at h1
      rw [h1]
      dsimp only
      split
      · split <;> simp [Under]
      · simp [Under]

theorem fileM_under {E F : PEnv} (h : LeE E F) : Under (fileM E) (fileM F) := by
  unfold fileM
  rw [h.l]
  by_cases h1 : kindAt E.l 0 ≠ 1
  · rw [if_pos h1, if_pos h1]; simp [Under]
  rw [if_neg h1, if_neg h1]
  by_cases h2 : kindAt E.l 1 ≠ 3 ∨ textAt E.l 1 ≠ wordFile
  · rw [if_pos h2, if_pos h2]; simp [Under]
  rw [if_neg h2, if_neg h2]
  by_cases h3 : kindAt E.l 2 ≠ 1
  · rw [if_pos h3, if_pos h3]; simp [Under]
  rw [if_neg h3, if_neg h3]
  exact restM_under (fun k n => derivM_under h _ _ k n) (ctxM_under (fun k n => derivM_under h _ _ k n) _ _ _ _)

theorem wholeM_under {dOK nOK dOK' nOK' : Nat → Bool} (hd : ∀ n, dOK n = true → dOK' n = true) (hn : ∀ n, nOK n = true → nOK' n = true) (text : List UInt8) : Under (wholeM dOK nOK text) (wholeM dOK' nOK' text) := by
  have h := fileM_under (E := ⟨(lexL text).1, dOK, nOK⟩) (F := ⟨(lexL text).1, dOK', nOK'⟩) ⟨rfl, hd, hn⟩
  unfold wholeM
  revert h
  cases fileM ⟨(lexL text).1, dOK, nOK⟩ with
  | bad k y =>
    cases y with
    | parse => intro h; simp only [Under] at h; rw [h]; simp [Under]
    | deep => intro _; simp [Under]
    | nodes => intro _; simp [Under]
  | ok x k n =>
    intro h; simp only [Under] at h; rw [h]
    dsimp only
    split <;> simp [Under]

mutual
def nodesD : DT → Nat
  | .node _ _ ks => 1 + nodesDs ks
def nodesDs : List DT → Nat
  | [] => 0
  | k :: ks => nodesD k + nodesDs ks
end
mutual
def deepD : DT → Nat
  | .node _ _ ks => deepDs ks + 1
def deepDs : List DT → Nat
  | [] => 0
  | k :: ks => max (deepD k) (deepDs ks)
end
theorem nodesDs_append : ∀ (a b : List DT), nodesDs (a ++ b) = nodesDs a + nodesDs b
  | [], b => by simp [nodesDs]
  | k :: a, b => by simp [nodesDs, nodesDs_append a b]; omega
theorem deepDs_append : ∀ (a b : List DT), deepDs (a ++ b) = max (deepDs a) (deepDs b)
  | [], b => by simp [deepDs]
  | k :: a, b => by simp [deepDs, deepDs_append a b, Nat.max_assoc]

theorem kidsM_count {f : Nat → Nat → Res DT} (h : ∀ k n d k' n', f k n = .ok d k' n' → n' = n + nodesD d) : ∀ (c k n : Nat) (acc ds : List DT) (k' n' : Nat), kidsM f c k n acc = .ok ds k' n' → ∃ more, ds = acc ++ more ∧ more.length = c ∧ n' = n + nodesDs more
  | 0, k, n, acc, ds, k', n', hq => by
    simp only [kidsM, Res.ok.injEq] at hq
    obtain ⟨rfl, rfl, rfl⟩ := hq
    exact ⟨[], by simp, rfl, by simp [nodesDs]⟩
  | c + 1, k, n, acc, ds, k', n', hq => by
    unfold kidsM at hq
    cases hf : f k n with
    | bad k1 y => rw [hf] at hq; simp at hq
    | ok d k1 n1 =>
      rw [hf] at hq
      obtain ⟨more, rfl, hl, rfl⟩ := kidsM_count h c k1 n1 _ ds k' n' hq
      have := h k n d k1 n1 hf
      exact ⟨d :: more, by simp, by simp [hl], by simp only [nodesDs]; omega⟩

theorem closeM_ok {l : List Tok} {r i : Int} {x : Res (List DT)} {d : DT} {k' n' : Nat} (h : closeM l r i x = .ok d k' n') : ∃ ks k, x = .ok ks k n' ∧ d = .node r i ks ∧ k' = k + 1 ∧ kindAt l k = 2 := by
  cases x with
  | bad k y => simp [closeM] at h
  | ok ks k n =>
    simp only [closeM] at h
    by_cases hc : kindAt l k = 2
    · rw [if_pos hc] at h
      simp only [Res.ok.injEq] at h
      obtain ⟨rfl, rfl, rfl⟩ := h
      exact ⟨ks, k, rfl, rfl, rfl, hc⟩
    · rw [if_neg hc] at h; simp at h

/-- what a derivation that was read was read of -/
theorem derivM_ok {E : PEnv} {f deep k n : Nat} {d : DT} {k' n' : Nat} (h : derivM E (f + 1) deep k n = .ok d k' n') :
    kindAt E.l k = 1 ∧ E.dOK deep = true ∧ E.nOK (n + 1) = true ∧ kindAt E.l (k + 1) = 3 ∧ ruleI (textAt E.l (k + 1)) ≠ 0 ∧
    ((ruleI (textAt E.l (k + 1)) = 1 ∨ ruleI (textAt E.l (k + 1)) = 2) ∧ kindAt E.l (k + 2) = 4 ∧ kindAt E.l (k + 3) = 2 ∧ d = .node (ruleI (textAt E.l (k + 1))) ((getN (textAt E.l (k + 2))).getD 0) [] ∧ k' = k + 4 ∧ n' = n + 1 ∨
     ¬ (ruleI (textAt E.l (k + 1)) = 1 ∨ ruleI (textAt E.l (k + 1)) = 2) ∧ ∃ ks k2, kidsM (derivM E f (deep + 1)) (kidsI (ruleI (textAt E.l (k + 1)))).toNat (k + 2) (n + 1) [] = .ok ks k2 n' ∧ kindAt E.l k2 = 2 ∧ d = .node (ruleI (textAt E.l (k + 1))) 0 ks ∧ k' = k2 + 1) := by
  unfold derivM at h
  by_cases h1 : kindAt E.l k ≠ 1
  · rw [if_pos h1] at h; simp at h
  rw [if_neg h1] at h
  cases h2 : E.dOK deep
  · rw [h2] at h; simp at h
  rw [h2] at h
  cases h3 : E.nOK (n + 1)
  · rw [h3] at h; simp at h
  rw [h3] at h
  simp only [Bool.true_eq_false, if_false] at h
  by_cases h4 : kindAt E.l (k + 1) ≠ 3 ∨ ruleI (textAt E.l (k + 1)) = 0
  · rw [if_pos h4] at h; simp at h
  rw [if_neg h4] at h
  refine ⟨by omega, rfl, rfl, by omega, by omega, ?_⟩
  by_cases h5 : ruleI (textAt E.l (k + 1)) = 1 ∨ ruleI (textAt E.l (k + 1)) = 2
  · rw [if_pos h5] at h
    by_cases h6 : kindAt E.l (k + 2) ≠ 4
    · rw [if_pos h6] at h; simp at h
    rw [if_neg h6] at h
    obtain ⟨ks, k2, hx, rfl, rfl, hc⟩ := closeM_ok h
    simp only [Res.ok.injEq] at hx
    obtain ⟨rfl, rfl, rfl⟩ := hx
    exact .inl ⟨h5, by omega, hc, rfl, rfl, rfl⟩
  · rw [if_neg h5] at h
    obtain ⟨ks, k2, hx, rfl, rfl, hc⟩ := closeM_ok h
    exact .inr ⟨h5, ks, k2, hx, hc, rfl, rfl⟩

theorem derivM_count (E : PEnv) : ∀ (f deep k n : Nat) (d : DT) (k' n' : Nat), derivM E f deep k n = .ok d k' n' → n' = n + nodesD d
  | 0, _, _, _, _, _, _, h => by simp [derivM] at h
  | f + 1, deep, k, n, d, k', n', h => by
    obtain ⟨_, _, _, _, _, ⟨_, _, _, rfl, _, rfl⟩ | ⟨_, ks, k2, hq, _, rfl, rfl⟩⟩ := derivM_ok h
    · simp [nodesD, nodesDs]
    · obtain ⟨more, rfl, _, rfl⟩ := kidsM_count (fun k n d k' n' h => derivM_count E f (deep + 1) k n d k' n' h) _ _ _ _ _ _ _ hq
      simp only [nodesD, List.nil_append]; omega

/-- what a limit makes of what is read without -/
def Lim (D N deep nod dep : Nat) {α : Type} (a : α) (k n : Nat) (y : Res α) : Prop :=
  (deep + dep ≤ D + 1 ∧ n + nod ≤ N → y = .ok a k (n + nod)) ∧ (¬ (deep + dep ≤ D + 1 ∧ n + nod ≤ N) → (∃ j, y = .bad j .deep ∧ D + 1 < deep + dep) ∨ (∃ j, y = .bad j .nodes ∧ N < n + nod))

theorem kidsM_lim {D N deep : Nat} (hdp : deep ≤ D + 1) {f g : Nat → Nat → Res DT} (hc : ∀ k n d k' n', g k n = .ok d k' n' → n' = n + nodesD d)
    (h : ∀ k n d k' n', n ≤ N → g k n = .ok d k' n' → Lim D N deep (nodesD d) (deepD d) d k' n (f k n)) :
    ∀ (c k n : Nat) (acc more : List DT) (k' n' : Nat), n ≤ N → kidsM g c k n acc = .ok (acc ++ more) k' n' → Lim D N deep (nodesDs more) (deepDs more) (acc ++ more) k' n (kidsM f c k n acc)
  | 0, k, n, acc, more, k', n', hn, hq => by
    simp only [kidsM, Res.ok.injEq] at hq
    obtain ⟨hq, rfl, rfl⟩ := hq
    have : more = [] := by simpa using hq
    subst this
    simp only [Lim, nodesDs, deepDs, kidsM]
    constructor
    · intro _; simp
    · intro h; omega
  | c + 1, k, n, acc, more, k', n', hn, hq => by
    unfold kidsM at hq ⊢
    cases hg : g k n with
    | bad k1 y => rw [hg] at hq; simp at hq
    | ok d k1 n1 =>
      rw [hg] at hq
      dsimp only at hq
      obtain ⟨more2, he, _, _⟩ := kidsM_count hc c k1 n1 _ _ k' n' hq
      rw [List.append_assoc] at he
      have he2 := List.append_cancel_left he
      subst he2
      have hn1 := hc k n d k1 n1 hg
      subst hn1
      obtain ⟨ha, hb⟩ := h k n d k1 _ hn hg
      simp only [List.singleton_append]
      by_cases hw : deep + deepD d ≤ D + 1 ∧ n + nodesD d ≤ N
      · rw [ha hw]
        have h2 := kidsM_lim hdp hc h c k1 (n + nodesD d) (acc ++ [d]) more2 k' n' (by omega) (by simpa using hq)
        simp only [Lim, nodesDs, deepDs, List.append_assoc, List.singleton_append] at h2 ⊢
        constructor
        · intro h5; rw [h2.1 (by omega)]; congr 1; omega
        · intro h5
          rcases h2.2 (by omega) with ⟨j, e, h6⟩ | ⟨j, e, h6⟩
          · exact .inl ⟨j, e, by omega⟩
          · exact .inr ⟨j, e, by omega⟩
      · simp only [Lim, nodesDs, deepDs]
        constructor
        · intro h5; omega
        · intro _
          rcases hb hw with ⟨j, e, h6⟩ | ⟨j, e, h6⟩
          · rw [e]; exact .inl ⟨j, rfl, by omega⟩
          · rw [e]; exact .inr ⟨j, rfl, by omega⟩

structure LimE (D N : Nat) (E F : PEnv) : Prop where
  l : F.l = E.l
  d : ∀ n, n ≤ D + 1 → F.dOK n = decide (n ≤ D)
  n : ∀ n, n ≤ N + 1 → F.nOK n = decide (n ≤ N)

theorem derivM_lim {D N : Nat} {E F : PEnv} (hE : LimE D N E F) : ∀ (f deep k n : Nat) (d : DT) (k' n' : Nat), deep ≤ D + 1 → n ≤ N → derivM E f deep k n = .ok d k' n' → Lim D N deep (nodesD d) (deepD d) d k' n (derivM F f deep k n)
  | 0, _, _, _, _, _, _, _, _, h => by simp [derivM] at h
  | f + 1, deep, k, n, d, k', n', hd, hn, h => by
    obtain ⟨h1, _, _, h4, h4', h⟩ := derivM_ok h
    have hpos : 1 ≤ nodesD d ∧ 1 ≤ deepD d := by
      cases d; simp [nodesD, deepD]
    unfold derivM
    rw [hE.l, if_neg (by omega), hE.d deep (by omega), hE.n (n + 1) (by omega)]
    by_cases hd1 : deep ≤ D
    · rw [if_neg (by simp; omega)]
      by_cases hn1 : n + 1 ≤ N
      · rw [if_neg (by simp; omega), if_neg (by omega)]
        rcases h with ⟨h5, h6, h7, rfl, rfl, rfl⟩ | ⟨h5, ks, k2, hq, h7, rfl, rfl⟩
        · rw [if_pos h5, if_neg (by omega)]
          simp only [closeM, h7, if_true, Lim, nodesD, nodesDs, deepD, deepDs]
          constructor
          · intro _; simp
          · intro h; omega
        · rw [if_neg h5]
          have hc := kidsM_count (fun k n d k' n' h => derivM_count E f (deep + 1) k n d k' n' h) _ _ _ _ _ _ _ hq
          obtain ⟨more, hm, _, hn'⟩ := hc
          rw [List.nil_append] at hm
          subst hm
          have hl := kidsM_lim (deep := deep + 1) (by omega) (f := derivM F f (deep + 1)) (fun k n d k' n' h => derivM_count E f (deep + 1) k n d k' n' h) (fun k n d k' n' hn h => derivM_lim hE f (deep + 1) k n d k' n' (by omega) hn h) _ _ _ [] ks k2 n' hn1 (by simpa using hq)
          simp only [List.nil_append] at hl
          obtain ⟨ha, hb⟩ := hl
          simp only [Lim, nodesD, deepD]
          constructor
          · intro h8
            rw [ha (by omega)]
            simp only [closeM, h7, if_true]
            congr 1; omega
          · intro h8
            rcases hb (by omega) with ⟨j, e, h9⟩ | ⟨j, e, h9⟩
            · rw [e]; exact .inl ⟨j, rfl, by omega⟩
            · rw [e]; exact .inr ⟨j, rfl, by omega⟩
      · rw [if_pos (by simp; omega)]
        simp only [Lim]
        exact ⟨fun h => by omega, fun _ => .inr ⟨k, rfl, by omega⟩⟩
    · rw [if_pos (by simp; omega)]
      simp only [Lim]
      exact ⟨fun h => by omega, fun _ => .inl ⟨k, rfl, by omega⟩⟩

theorem ctxM_count {f : Nat → Nat → Res DT} {l : List Tok} (h : ∀ k n d k' n', f k n = .ok d k' n' → n' = n + nodesD d) : ∀ (c k n : Nat) (acc ds : List DT) (k' n' : Nat), ctxM f l c k n acc = .ok ds k' n' → ∃ more, ds = acc ++ more ∧ n' = n + nodesDs more ∧ kindAt l k' = 2
  | 0, k, n, acc, ds, k', n', hq => by simp [ctxM] at hq
  | c + 1, k, n, acc, ds, k', n', hq => by
    unfold ctxM at hq
    by_cases h0 : kindAt l k = 2
    · rw [if_pos h0] at hq
      simp only [Res.ok.injEq] at hq
      obtain ⟨rfl, rfl, rfl⟩ := hq
      exact ⟨[], by simp, by simp [nodesDs], h0⟩
    rw [if_neg h0] at hq
    cases hf : f k n with
    | bad k1 y => rw [hf] at hq; simp at hq
    | ok d k1 n1 =>
      rw [hf] at hq
      obtain ⟨more, rfl, rfl, h2⟩ := ctxM_count h c k1 n1 _ ds k' n' hq
      have := h k n d k1 n1 hf
      exact ⟨d :: more, by simp, by simp only [nodesDs]; omega, h2⟩

theorem ctxM_lim {D N deep : Nat} {l : List Tok} (hdp : deep ≤ D + 1) {f g : Nat → Nat → Res DT} (hc : ∀ k n d k' n', g k n = .ok d k' n' → n' = n + nodesD d)
    (h : ∀ k n d k' n', n ≤ N → g k n = .ok d k' n' → Lim D N deep (nodesD d) (deepD d) d k' n (f k n)) :
    ∀ (c k n : Nat) (acc more : List DT) (k' n' : Nat), n ≤ N → ctxM g l c k n acc = .ok (acc ++ more) k' n' → Lim D N deep (nodesDs more) (deepDs more) (acc ++ more) k' n (ctxM f l c k n acc)
  | 0, k, n, acc, more, k', n', hn, hq => by simp [ctxM] at hq
  | c + 1, k, n, acc, more, k', n', hn, hq => by
    unfold ctxM at hq ⊢
    by_cases h0 : kindAt l k = 2
    · rw [if_pos h0] at hq ⊢
      simp only [Res.ok.injEq] at hq
      obtain ⟨hq, rfl, rfl⟩ := hq
      have : more = [] := by simpa using hq
      subst this
      simp only [Lim, nodesDs, deepDs]
      constructor
      · intro _; simp
      · intro h; omega
    rw [if_neg h0] at hq ⊢
    cases hg : g k n with
    | bad k1 y => rw [hg] at hq; simp at hq
    | ok d k1 n1 =>
      rw [hg] at hq
      dsimp only at hq
      obtain ⟨more2, he, _, _⟩ := ctxM_count hc c k1 n1 _ _ k' n' hq
      rw [List.append_assoc] at he
      have he2 := List.append_cancel_left he
      subst he2
      have hn1 := hc k n d k1 n1 hg
      subst hn1
      obtain ⟨ha, hb⟩ := h k n d k1 _ hn hg
      simp only [List.singleton_append]
      by_cases hw : deep + deepD d ≤ D + 1 ∧ n + nodesD d ≤ N
      · rw [ha hw]
        have h2 := ctxM_lim hdp hc h c k1 (n + nodesD d) (acc ++ [d]) more2 k' n' (by omega) (by simpa using hq)
        simp only [Lim, nodesDs, deepDs, List.append_assoc, List.singleton_append] at h2 ⊢
        constructor
        · intro h5; rw [h2.1 (by omega)]; congr 1; omega
        · intro h5
          rcases h2.2 (by omega) with ⟨j, e, h6⟩ | ⟨j, e, h6⟩
          · exact .inl ⟨j, e, by omega⟩
          · exact .inr ⟨j, e, by omega⟩
      · simp only [Lim, nodesDs, deepDs]
        constructor
        · intro h5; omega
        · intro _
          rcases hb hw with ⟨j, e, h6⟩ | ⟨j, e, h6⟩
          · rw [e]; exact .inl ⟨j, rfl, by omega⟩
          · rw [e]; exact .inr ⟨j, rfl, by omega⟩

theorem fileM_ok {E : PEnv} {cs : List DT} {d : DT} {k' n' : Nat} (h : fileM E = .ok (cs, d) k' n') :
    kindAt E.l 0 = 1 ∧ kindAt E.l 1 = 3 ∧ textAt E.l 1 = wordFile ∧ kindAt E.l 2 = 1 ∧ ∃ k n k2, ctxM (derivM E (E.l.length + 1) 1) E.l (E.l.length + 1) 3 0 [] = .ok cs k n ∧ derivM E (E.l.length + 1) 1 (k + 1) n = .ok d k2 n' ∧ kindAt E.l k2 = 2 ∧ k' = k2 + 1 ∧ E.l.length ≤ k' := by
  unfold fileM at h
  by_cases h1 : kindAt E.l 0 ≠ 1
  · rw [if_pos h1] at h; simp at h
  rw [if_neg h1] at h
  by_cases h2 : kindAt E.l 1 ≠ 3 ∨ textAt E.l 1 ≠ wordFile
  · rw [if_pos h2] at h; simp at h
  rw [if_neg h2] at h
  by_cases h3 : kindAt E.l 2 ≠ 1
  · rw [if_pos h3] at h; simp at h
  rw [if_neg h3] at h
  refine ⟨by omega, by omega, by simpa using fun h => h2 (.inr h), by omega, ?_⟩
  cases hc : ctxM (derivM E (E.l.length + 1) 1) E.l (E.l.length + 1) 3 0 [] with
  | bad k y => rw [hc] at h; simp [restM] at h
  | ok cs' k n =>
    rw [hc] at h
    simp only [restM] at h
    cases hd : derivM E (E.l.length + 1) 1 (k + 1) n with
    | bad k y => rw [hd] at h; simp at h
    | ok d' k2 n2 =>
      rw [hd] at h
      dsimp only at h
      by_cases h4 : kindAt E.l k2 = 2
      · rw [if_pos h4] at h
        by_cases h5 : k2 + 1 < E.l.length
        · rw [if_pos h5] at h; simp at h
        · rw [if_neg h5] at h
          simp only [Res.ok.injEq, Prod.mk.injEq] at h
          obtain ⟨⟨rfl, rfl⟩, rfl, rfl⟩ := h
          exact ⟨k, n, k2, rfl, hd, h4, rfl, by omega⟩
      · rw [if_neg h4] at h; simp at h

theorem fileM_lim {D N : Nat} {E F : PEnv} (hE : LimE D N E F) {cs : List DT} {d : DT} {k' n' : Nat} (h : fileM E = .ok (cs, d) k' n') :
    Lim D N 1 (nodesDs cs + nodesD d) (max (deepDs cs) (deepD d)) (cs, d) k' 0 (fileM F) := by
  obtain ⟨h0, h1, h2, h3, k, n, k2, hc, hd, h4, rfl, h5⟩ := fileM_ok h
  unfold fileM
  rw [hE.l, if_neg (by omega), if_neg (by rw [h2]; simp; omega), if_neg (by omega)]
  have hcount := fun k n d k' n' h => derivM_count E (E.l.length + 1) 1 k n d k' n' h
  have hlim := fun k n d k' n' hn h => derivM_lim hE (E.l.length + 1) 1 k n d k' n' (by omega) hn h
  obtain ⟨more, hm, rfl, _⟩ := ctxM_count hcount _ _ _ _ _ _ _ hc
  rw [List.nil_append] at hm
  subst hm
  have ha := ctxM_lim (l := E.l) (by omega) hcount hlim _ _ _ [] cs k _ (Nat.zero_le _) (by simpa using hc)
  rw [List.nil_append] at ha
  have hn := hcount _ _ _ _ _ hd
  subst hn
  have hpos : 1 ≤ nodesD d ∧ 1 ≤ deepD d := by
    cases d; simp [nodesD, deepD]
  obtain ⟨ha1, ha2⟩ := ha
  by_cases hw : 1 + deepDs cs ≤ D + 1 ∧ 0 + nodesDs cs ≤ N
  · rw [ha1 hw]
    obtain ⟨hb1, hb2⟩ := hlim (k + 1) (0 + nodesDs cs) d k2 _ (by omega) hd
    simp only [restM]
    by_cases hw2 : 1 + deepD d ≤ D + 1 ∧ 0 + nodesDs cs + nodesD d ≤ N
    · rw [hb1 hw2]
      dsimp only
      rw [if_pos h4, if_neg (by omega)]
      exact ⟨fun _ => by congr 1; omega, fun h => by omega⟩
    · refine ⟨fun h => by omega, fun _ => ?_⟩
      rcases hb2 hw2 with ⟨j, e, h9⟩ | ⟨j, e, h9⟩
      · rw [e]; exact .inl ⟨j, rfl, by omega⟩
      · rw [e]; exact .inr ⟨j, rfl, by omega⟩
  · refine ⟨fun h => by omega, fun _ => ?_⟩
    rcases ha2 hw with ⟨j, e, h9⟩ | ⟨j, e, h9⟩
    · rw [e]; exact .inl ⟨j, rfl, by omega⟩
    · rw [e]; exact .inr ⟨j, rfl, by omega⟩
end Go.Proofs.YtfpiogaakblpeaaDoor
