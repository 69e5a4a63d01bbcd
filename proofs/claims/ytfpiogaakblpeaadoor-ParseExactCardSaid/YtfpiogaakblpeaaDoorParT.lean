/- Laws of reading, on lists: what is read is right; kinds and texts alone matter; what was read has these tokens, and is read of them. -/
import Derived.Test.YtfpiogaakblpeaaDoorParL
namespace Go.Proofs.YtfpiogaakblpeaaDoor
open Go.RowKit

theorem ruleI_le (s : List UInt8) : ruleI s ≤ 28 := by unfold ruleI; split <;> omega
theorem ruleWords_length : ruleWords.length = 28 := rfl
theorem ruleI_word {s : List UInt8} (h : ruleI s ≠ 0) : wordI (ruleI s) = s := by
  unfold ruleI at *
  by_cases h1 : ruleWords.idxOf s < 28
  · rw [if_pos h1]
    unfold wordI
    rw [if_neg (by omega)]
    have e : (((ruleWords.idxOf s + 1 : Nat) : Int) - 1).toNat = ruleWords.idxOf s := by omega
    rw [e, List.getD_eq_getElem?_getD, List.getElem?_eq_getElem (by rw [ruleWords_length]; exact h1)]
    simp
  · rw [if_neg h1] at h; exact absurd rfl h
theorem kidsN_eq (r : Nat) (h : r ≠ 0) (h2 : r ≤ 28) : ((kidsI r).toNat : Int) = kidsI r := by
  unfold kidsI
  rw [if_neg (by omega)]
  omega

theorem getN_some {l : List UInt8} {n : Nat} (h : getN l = some n) : n ≤ 1000000 ∧ Lib.itoa n = l := by
  unfold getN at h
  split at h
  · simp at h
  · split at h
    · split at h
      · simp at h
      · rename_i h3
        simp only [Option.some.injEq] at h
        subst h
        have h4 : ¬ 1000000 < valL l := fun h => h3 (.inl h)
        exact ⟨by omega, Classical.not_not.1 fun h => h3 (.inr h)⟩
    · simp at h

theorem kidsM_right {f : Nat → Nat → Res DT} (h : ∀ k n d k' n', f k n = .ok d k' n' → rightD d = true) : ∀ (c k n : Nat) (acc ds : List DT) (k' n' : Nat), rightDs acc = true → kidsM f c k n acc = .ok ds k' n' → rightDs ds = true
  | 0, k, n, acc, ds, k', n', ha, hq => by
    simp only [kidsM, Res.ok.injEq] at hq
    obtain ⟨rfl, rfl, rfl⟩ := hq
    exact ha
  | c + 1, k, n, acc, ds, k', n', ha, hq => by
    unfold kidsM at hq
    cases hf : f k n with
    | bad k1 y => rw [hf] at hq; simp at hq
    | ok d k1 n1 =>
      rw [hf] at hq
      refine kidsM_right h c k1 n1 (acc ++ [d]) ds k' n' ?_ hq
      rw [rightDs_iff] at *
      simp [ha, h k n d k1 n1 hf]

theorem derivM_right (E : PEnv) : ∀ (f deep k n : Nat) (d : DT) (k' n' : Nat), derivM E f deep k n = .ok d k' n' → rightD d = true
  | 0, _, _, _, _, _, _, h => by simp [derivM] at h
  | f + 1, deep, k, n, d, k', n', h => by
    obtain ⟨_, _, _, _, hr, ⟨h5, _, _, rfl, _, rfl⟩ | ⟨h5, ks, k2, hq, _, rfl, rfl⟩⟩ := derivM_ok h
    · have hg : (getN (textAt E.l (k + 2))).getD 0 ≤ 1000000 := by
        cases hq : getN (textAt E.l (k + 2)) with
        | none => simp
        | some x => have := (getN_some hq).1; simpa using this
      generalize (getN (textAt E.l (k + 2))).getD 0 = x at hg
      rcases h5 with h5 | h5
      · rw [h5]; simp [rightD, rightDs, kidsI, kidsTab]; omega
      · rw [h5]; simp [rightD, rightDs, kidsI, kidsTab]; omega
    · obtain ⟨more, hm, hl, _⟩ := kidsM_count (fun k n d k' n' h => derivM_count E f (deep + 1) k n d k' n' h) _ _ _ _ _ _ _ hq
      rw [List.nil_append] at hm
      subst hm
      have hk := kidsN_eq _ hr (ruleI_le _)
      have hrs := kidsM_right (fun k n d k' n' h => derivM_right E f (deep + 1) k n d k' n' h) _ _ _ [] _ _ _ rfl hq
      simp only [rightD, hrs, hl]
      simp
      omega

theorem ctxM_right {f : Nat → Nat → Res DT} {l : List Tok} (h : ∀ k n d k' n', f k n = .ok d k' n' → rightD d = true) : ∀ (c k n : Nat) (acc ds : List DT) (k' n' : Nat), rightDs acc = true → ctxM f l c k n acc = .ok ds k' n' → rightDs ds = true
  | 0, k, n, acc, ds, k', n', ha, hq => by simp [ctxM] at hq
  | c + 1, k, n, acc, ds, k', n', ha, hq => by
    unfold ctxM at hq
    by_cases h0 : kindAt l k = 2
    · rw [if_pos h0] at hq
      simp only [Res.ok.injEq] at hq
      obtain ⟨rfl, rfl, rfl⟩ := hq
      exact ha
    rw [if_neg h0] at hq
    cases hf : f k n with
    | bad k1 y => rw [hf] at hq; simp at hq
    | ok d k1 n1 =>
      rw [hf] at hq
      refine ctxM_right h c k1 n1 (acc ++ [d]) ds k' n' ?_ hq
      rw [rightDs_iff] at *
      simp [ha, h k n d k1 n1 hf]

theorem fileM_right {E : PEnv} {cs : List DT} {d : DT} {k' n' : Nat} (h : fileM E = .ok (cs, d) k' n') : rightDs cs = true ∧ rightD d = true := by
  obtain ⟨h0, h1, h2, h3, k, n, k2, hc, hd, h4, rfl, h5⟩ := fileM_ok h
  exact ⟨ctxM_right (fun k n d k' n' h => derivM_right E _ _ k n d k' n' h) _ _ _ [] _ _ _ rfl hc, derivM_right E _ _ _ _ _ _ _ hd⟩

theorem wholeM_ok {dOK nOK : Nat → Bool} {text : List UInt8} {x : List DT × DT} {k n : Nat} (h : wholeM dOK nOK text = .ok x k n) : fileM ⟨(lexL text).1, dOK, nOK⟩ = .ok x k n ∧ (lexL text).2 = none := by
  unfold wholeM at h
  cases hq : fileM ⟨(lexL text).1, dOK, nOK⟩ with
  | bad k y => rw [hq] at h; simp at h
  | ok x' k' n' =>
    rw [hq] at h
    dsimp only at h
    by_cases hn : (lexL text).2 = none
    · rw [if_pos hn] at h
      simp only [Res.ok.injEq] at h
      obtain ⟨rfl, rfl, rfl⟩ := h
      exact ⟨rfl, hn⟩
    · rw [if_neg hn] at h; simp at h

/-- a token's kind and text -/
def kt (t : Tok) : Nat × List UInt8 := (t.kind, t.text)
theorem kindAt_kt {l m : List Tok} (h : l.map kt = m.map kt) (k : Nat) : kindAt l k = kindAt m k := by
  have e : ∀ l : List Tok, kindAt l k = ((l.map kt)[k]?.map Prod.fst).getD 0 := by
    intro l; simp only [kindAt, List.getElem?_map, Option.map_map]; rfl
  rw [e, e, h]
theorem textAt_kt {l m : List Tok} (h : l.map kt = m.map kt) (k : Nat) : textAt l k = textAt m k := by
  have e : ∀ l : List Tok, textAt l k = ((l.map kt)[k]?.map Prod.snd).getD [] := by
    intro l; simp only [textAt, List.getElem?_map, Option.map_map]; rfl
  rw [e, e, h]
theorem closeM_kt {l m : List Tok} (h : l.map kt = m.map kt) (r i : Int) (x : Res (List DT)) : closeM l r i x = closeM m r i x := by
  cases x with
  | bad k y => rfl
  | ok ks k n => simp only [closeM, kindAt_kt h]
theorem derivM_kt {l m : List Tok} (h : l.map kt = m.map kt) (dOK nOK : Nat → Bool) : ∀ (f deep k n : Nat), derivM ⟨l, dOK, nOK⟩ f deep k n = derivM ⟨m, dOK, nOK⟩ f deep k n
  | 0, _, _, _ => rfl
  | f + 1, deep, k, n => by
    have e : derivM ⟨l, dOK, nOK⟩ f (deep + 1) = derivM ⟨m, dOK, nOK⟩ f (deep + 1) := by
      funext k n; exact derivM_kt h dOK nOK f (deep + 1) k n
    unfold derivM
    simp only [kindAt_kt h, textAt_kt h, closeM_kt h, e]
theorem ctxM_kt {l m : List Tok} (h : l.map kt = m.map kt) (f : Nat → Nat → Res DT) : ∀ (c k n : Nat) (acc : List DT), ctxM f l c k n acc = ctxM f m c k n acc
  | 0, _, _, _ => rfl
  | c + 1, k, n, acc => by
    unfold ctxM
    rw [kindAt_kt h]
    split
    · rfl
    · cases f k n with
      | bad k' y => rfl
      | ok d k' n' => exact ctxM_kt h f c k' n' _
theorem fileM_kt {l m : List Tok} (h : l.map kt = m.map kt) (dOK nOK : Nat → Bool) : fileM ⟨l, dOK, nOK⟩ = fileM ⟨m, dOK, nOK⟩ := by
  have hl : l.length = m.length := by simpa using congrArg List.length h
  have e : derivM ⟨l, dOK, nOK⟩ (m.length + 1) 1 = derivM ⟨m, dOK, nOK⟩ (m.length + 1) 1 := by
    funext k n; exact derivM_kt h dOK nOK _ _ k n
  have e2 : ∀ x, restM (derivM ⟨m, dOK, nOK⟩ (m.length + 1) 1) l x = restM (derivM ⟨m, dOK, nOK⟩ (m.length + 1) 1) m x := by
    intro x
    cases x with
    | bad k y => rfl
    | ok cs k n => simp only [restM, kindAt_kt h, hl]
  unfold fileM
  simp only [kindAt_kt h, textAt_kt h, hl, e, ctxM_kt h, e2]

/-- a derivation's tokens -/
def tOpen : Nat × List UInt8 := (1, [40])
def tClose : Nat × List UInt8 := (2, [41])
mutual
def tokD : DT → List (Nat × List UInt8)
  | .node r i ks => tOpen :: (3, wordI r) :: ((if r = 1 ∨ r = 2 then [(4, Lib.itoa i)] else []) ++ tokDs ks ++ [tClose])
def tokDs : List DT → List (Nat × List UInt8)
  | [] => []
  | k :: ks => tokD k ++ tokDs ks
end
def tokF (cs : List DT) (d : DT) : List (Nat × List UInt8) := tOpen :: (3, wordFile) :: tOpen :: (tokDs cs ++ tClose :: (tokD d ++ [tClose]))
theorem tokDs_append : ∀ (a b : List DT), tokDs (a ++ b) = tokDs a ++ tokDs b
  | [], b => by simp [tokDs]
  | k :: a, b => by simp [tokDs, tokDs_append a b]

/-- a lexer's tokens: brackets have their texts, numbers are numbers -/
structure TokOK (l : List Tok) : Prop where
  o : ∀ t ∈ l, t.kind = 1 → t.text = [40]
  c : ∀ t ∈ l, t.kind = 2 → t.text = [41]
  n : ∀ t ∈ l, t.kind = 4 → (getN t.text).isSome = true

theorem drop_tok {l : List Tok} {k c : Nat} (h : kindAt l k = c) (h0 : c ≠ 0) : ∃ t, t ∈ l ∧ t.kind = c ∧ t.text = textAt l k ∧ (l.drop k).map kt = (c, textAt l k) :: (l.drop (k + 1)).map kt := by
  have hk := kindAt_lt (l := l) (k := k) (by omega)
  refine ⟨l[k], List.getElem_mem _, by rw [← kindAt_eq hk, h], (textAt_eq hk).symm, ?_⟩
  rw [List.drop_eq_getElem_cons hk, List.map_cons]
  congr 1
  rw [textAt_eq hk, ← h, kindAt_eq hk]; rfl

theorem kidsM_tok {l : List Tok} {f : Nat → Nat → Res DT} (h : ∀ k n d k' n', f k n = .ok d k' n' → (l.drop k).map kt = tokD d ++ (l.drop k').map kt) : ∀ (c k n : Nat) (acc ds : List DT) (k' n' : Nat), kidsM f c k n acc = .ok ds k' n' → tokDs acc ++ (l.drop k).map kt = tokDs ds ++ (l.drop k').map kt
  | 0, k, n, acc, ds, k', n', hq => by
    simp only [kidsM, Res.ok.injEq] at hq
    obtain ⟨rfl, rfl, rfl⟩ := hq
    rfl
  | c + 1, k, n, acc, ds, k', n', hq => by
    unfold kidsM at hq
    cases hf : f k n with
    | bad k1 y => rw [hf] at hq; simp at hq
    | ok d k1 n1 =>
      rw [hf] at hq
      rw [← kidsM_tok h c k1 n1 (acc ++ [d]) ds k' n' hq, h k n d k1 n1 hf, tokDs_append]
      simp [tokDs]

theorem derivM_tok {E : PEnv} (ht : TokOK E.l) : ∀ (f deep k n : Nat) (d : DT) (k' n' : Nat), derivM E f deep k n = .ok d k' n' → (E.l.drop k).map kt = tokD d ++ (E.l.drop k').map kt
  | 0, _, _, _, _, _, _, h => by simp [derivM] at h
  | f + 1, deep, k, n, d, k', n', h => by
    obtain ⟨h1, _, _, h3, hr, h⟩ := derivM_ok h
    obtain ⟨t1, ht1, hk1, hx1, e1⟩ := drop_tok h1 (by omega)
    obtain ⟨t2, ht2, hk2, hx2, e2⟩ := drop_tok h3 (by omega)
    have ho : textAt E.l k = [40] := by rw [← hx1]; exact ht.o t1 ht1 hk1
    rw [e1, e2, ho]
    rcases h with ⟨h5, h6, h7, rfl, rfl, rfl⟩ | ⟨h5, ks, k2, hq, h7, rfl, rfl⟩
    · obtain ⟨t3, ht3, hk3, hx3, e3⟩ := drop_tok h6 (by omega)
      obtain ⟨t4, ht4, hk4, hx4, e4⟩ := drop_tok h7 (by omega)
      have hc : textAt E.l (k + 3) = [41] := by rw [← hx4]; exact ht.c t4 ht4 hk4
      have hn := ht.n t3 ht3 hk3
      rw [hx3] at hn
      obtain ⟨x, hx⟩ := Option.isSome_iff_exists.1 hn
      have hi := (getN_some hx).2
      rw [e3, e4, hc]
      simp only [tokD, tokDs, hx, Option.getD_some, hi, ruleI_word hr]
      rw [if_pos (by omega)]
      simp [tOpen, tClose]
    · obtain ⟨t4, ht4, hk4, hx4, e4⟩ := drop_tok h7 (by omega)
      have hc : textAt E.l k2 = [41] := by rw [← hx4]; exact ht.c t4 ht4 hk4
      have hks := kidsM_tok (l := E.l) (fun k n d k' n' h => derivM_tok ht f (deep + 1) k n d k' n' h) _ _ _ _ _ _ _ hq
      simp only [tokDs, List.nil_append] at hks
      rw [hks, e4, hc]
      simp only [tokD, ruleI_word hr]
      rw [if_neg (by omega)]
      simp [tOpen, tClose]

theorem ctxM_tok {l : List Tok} {f : Nat → Nat → Res DT} (h : ∀ k n d k' n', f k n = .ok d k' n' → (l.drop k).map kt = tokD d ++ (l.drop k').map kt) : ∀ (c k n : Nat) (acc ds : List DT) (k' n' : Nat), ctxM f l c k n acc = .ok ds k' n' → tokDs acc ++ (l.drop k).map kt = tokDs ds ++ (l.drop k').map kt
  | 0, k, n, acc, ds, k', n', hq => by simp [ctxM] at hq
  | c + 1, k, n, acc, ds, k', n', hq => by
    unfold ctxM at hq
    by_cases h0 : kindAt l k = 2
    · rw [if_pos h0] at hq
      simp only [Res.ok.injEq] at hq
      obtain ⟨rfl, rfl, rfl⟩ := hq
      rfl
    rw [if_neg h0] at hq
    cases hf : f k n with
    | bad k1 y => rw [hf] at hq; simp at hq
    | ok d k1 n1 =>
      rw [hf] at hq
      rw [← ctxM_tok h c k1 n1 (acc ++ [d]) ds k' n' hq, h k n d k1 n1 hf, tokDs_append]
      simp [tokDs]

theorem fileM_tok {E : PEnv} (ht : TokOK E.l) {cs : List DT} {d : DT} {k' n' : Nat} (h : fileM E = .ok (cs, d) k' n') : E.l.map kt = tokF cs d := by
  obtain ⟨h0, h1, h2, h3, k, n, k2, hc, hd, h4, rfl, h5⟩ := fileM_ok h
  have hcl := (ctxM_count (fun k n d k' n' h => derivM_count E _ _ k n d k' n' h) _ _ _ _ _ _ _ hc)
  obtain ⟨_, _, _, hc2⟩ := hcl
  obtain ⟨t0, m0, k0, x0, e0⟩ := drop_tok h0 (by omega)
  obtain ⟨t1, m1, k1, x1, e1⟩ := drop_tok h1 (by omega)
  obtain ⟨t3, m3, k3, x3, e3⟩ := drop_tok h3 (by omega)
  obtain ⟨t4, m4, k4, x4, e4⟩ := drop_tok hc2 (by omega)
  obtain ⟨t5, m5, k5, x5, e5⟩ := drop_tok h4 (by omega)
  have hk := ctxM_tok (l := E.l) (fun k n d k' n' h => derivM_tok ht _ _ k n d k' n' h) _ _ _ _ _ _ _ hc
  have hd2 := derivM_tok ht _ _ _ _ _ _ _ hd
  simp only [tokDs, List.nil_append] at hk
  rw [List.drop_zero] at e0
  rw [e0, e1, e3, hk, e4, hd2, e5, List.drop_of_length_le h5, h2, ← x0, ← x3, ← x4, ← x5, ht.o _ m0 k0, ht.o _ m3 k3, ht.c _ m4 k4, ht.c _ m5 k5]
  simp [tokF, tOpen, tClose]
end Go.Proofs.YtfpiogaakblpeaaDoor
