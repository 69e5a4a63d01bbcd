/- A text that is read at great levels is read at smaller ones, as a term of the same form; a level that is not named turns nothing. On lists. A line of the library: what the program reads of it, on lists; a line that is read at the greatest levels is read at all. What is read of tokens is read of them as they stand within others; a plain term is read where a plain one is wanted. On lists. -/
import Derived.Test.YtfklmcmoackepaaDoorRm
import Derived.Test.YtfklmcmoackepaaDoorAg
namespace Go.Proofs.YtfklmcmoackepaaDoor
open Go.RowKit

mutual
/-- are two terms alike but for their levels? -/
def formT : TT → TT → Bool
  | .node k i _ n ks, .node k' i' _ n' ks' => k == k' && n == n' && (!(k == 2) || i == i') && formTs ks ks'
def formTs : List TT → List TT → Bool
  | [], [] => true
  | t :: ts, t' :: ts' => formT t t' && formTs ts ts'
  | _, _ => false
end
theorem formTs_append : ∀ (a b : List TT), formTs a b = true → ∀ (c d : List TT), formTs c d = true → formTs (a ++ c) (b ++ d) = true
  | [], [], _, c, d, h => h
  | t :: ts, t' :: ts', h, c, d, h2 => by
    simp only [formTs, Bool.and_eq_true, List.cons_append] at h ⊢
    exact ⟨h.1, formTs_append ts ts' h.2 c d h2⟩
  | [], _ :: _, h, _, _, _ => by simp [formTs] at h
  | _ :: _, [], h, _, _, _ => by simp [formTs] at h
mutual
theorem formT_symm : ∀ (a b : TT), formT a b = true → formT b a = true
  | .node k i j n ks, .node k' i' j' n' ks', h => by
    simp only [formT, Bool.and_eq_true, beq_iff_eq, Bool.or_eq_true, Bool.not_eq_true'] at h ⊢
    obtain ⟨⟨⟨rfl, rfl⟩, h3⟩, h4⟩ := h
    exact ⟨⟨⟨rfl, rfl⟩, h3.imp id Eq.symm⟩, formTs_symm ks ks' h4⟩
theorem formTs_symm : ∀ (a b : List TT), formTs a b = true → formTs b a = true
  | [], [], _ => rfl
  | t :: ts, t' :: ts', h => by
    simp only [formTs, Bool.and_eq_true] at h ⊢
    exact ⟨formT_symm t t' h.1, formTs_symm ts ts' h.2⟩
  | [], _ :: _, h => by simp [formTs] at h
  | _ :: _, [], h => by simp [formTs] at h
end
mutual
theorem formT_trans : ∀ (a b c : TT), formT a b = true → formT b c = true → formT a c = true
  | .node k i j n ks, .node k' i' j' n' ks', .node k2 i2 j2 n2 ks2, h, g => by
    simp only [formT, Bool.and_eq_true, beq_iff_eq, Bool.or_eq_true, Bool.not_eq_true'] at h g ⊢
    obtain ⟨⟨⟨rfl, rfl⟩, h3⟩, h4⟩ := h
    obtain ⟨⟨⟨rfl, rfl⟩, g3⟩, g4⟩ := g
    refine ⟨⟨⟨rfl, rfl⟩, ?_⟩, formTs_trans ks ks' ks2 h4 g4⟩
    rcases h3 with h3 | h3
    · exact .inl h3
    · rcases g3 with g3 | g3
      · exact .inl g3
      · exact .inr (h3.trans g3)
theorem formTs_trans : ∀ (a b c : List TT), formTs a b = true → formTs b c = true → formTs a c = true
  | [], [], [], _, _ => rfl
  | t :: ts, t' :: ts', t2 :: ts2, h, g => by
    simp only [formTs, Bool.and_eq_true] at h g ⊢
    exact ⟨formT_trans t t' t2 h.1 g.1, formTs_trans ts ts' ts2 h.2 g.2⟩
  | [], _ :: _, _, h, _ => by simp [formTs] at h
  | _ :: _, [], _, h, _ => by simp [formTs] at h
  | [], [], _ :: _, _, g => by simp [formTs] at g
  | _ :: _, _ :: _, [], _, g => by simp [formTs] at g
end

section
variable {l : List Tok} {i j i' j' : Nat}

theorem capM_mono {q n n' k m k' : Nat} (h : capM q n k = .ok m k') (hn : n' ≤ n) : ∃ m', m' ≤ m ∧ capM q n' k = .ok m' k' := by
  obtain ⟨rfl, rfl, h3⟩ := capM_ok h
  exact ⟨n', hn, by unfold capM; rw [if_neg (by omega)]⟩
theorem shutM_mono {q n n' k m k' : Nat} (h : shutM ⟨l, i', j'⟩ q n k = .ok m k') (hn : n' ≤ n) : ∃ m', m' ≤ m ∧ shutM ⟨l, i, j⟩ q n' k = .ok m' k' := by
  unfold shutM at h ⊢
  dsimp only at h ⊢
  split at h
  · rename_i h2
    rw [if_pos h2]
    exact capM_mono h hn
  · cases h
theorem levelM_mono (hi : i ≤ i') (hj : j ≤ j') : ∀ (f k n k' : Nat), levelM ⟨l, i', j'⟩ f k = .ok n k' → ∃ n', n' ≤ n ∧ levelM ⟨l, i, j⟩ f k = .ok n' k'
  | 0, k, n, k', h => by simp [levelM] at h
  | f + 1, k, n, k', h => by
    unfold levelM at h ⊢
    dsimp only at h ⊢
    by_cases h4 : kindAt l k = 4
    · rw [if_pos h4] at h ⊢
      exact capM_mono h (Nat.le_refl _)
    rw [if_neg h4] at h ⊢
    by_cases h5 : kindAt l k = 3 ∧ textAt l k = wI
    · rw [if_pos h5] at h ⊢
      exact capM_mono h hi
    rw [if_neg h5] at h ⊢
    by_cases h6 : kindAt l k = 3 ∧ textAt l k = wJ
    · rw [if_pos h6] at h ⊢
      exact capM_mono h hj
    rw [if_neg h6] at h ⊢
    by_cases h7 : kindAt l k = 1
    · rw [if_pos h7] at h ⊢
      by_cases h8 : kindAt l (k + 1) = 3 ∧ textAt l (k + 1) = wSuc
      · rw [if_pos h8] at h ⊢
        obtain ⟨a, k1, e1, h1⟩ := RR.bind_eq_ok h
        obtain ⟨a', ha, e2⟩ := levelM_mono hi hj f _ _ _ e1
        rw [e2, RR.bind_ok]
        exact shutM_mono h1 (by omega)
      rw [if_neg h8] at h ⊢
      by_cases h9 : kindAt l (k + 1) = 3 ∧ textAt l (k + 1) = wMax
      · rw [if_pos h9] at h ⊢
        obtain ⟨a, k1, e1, h1⟩ := RR.bind_eq_ok h
        obtain ⟨c, k2, e3, h2⟩ := RR.bind_eq_ok h1
        obtain ⟨a', ha, e2⟩ := levelM_mono hi hj f _ _ _ e1
        obtain ⟨c', hc, e4⟩ := levelM_mono hi hj f _ _ _ e3
        rw [e2, RR.bind_ok, e4, RR.bind_ok]
        exact shutM_mono h2 (by omega)
      rw [if_neg h9] at h
      cases h
    rw [if_neg h7] at h
    cases h

/-- the word j stands nowhere -/
def noJ (l : List Tok) : Prop := ∀ k, ¬ (kindAt l k = 3 ∧ textAt l k = wJ)
theorem levelM_same (hn : noJ l) : ∀ (f k : Nat), levelM ⟨l, i, j⟩ f k = levelM ⟨l, i, j'⟩ f k
  | 0, k => rfl
  | f + 1, k => by
    unfold levelM
    dsimp only
    rw [if_neg (hn k), if_neg (hn k)]
    simp only [levelM_same hn f]
    rfl

theorem headM_mono (hi : i ≤ i') (hj : j ≤ j') {kd k k' : Nat} {h' : Nat × Nat × Nat} (h : headM ⟨l, i', j'⟩ kd k = .ok h' k') : ∃ h2, h2.1 = h'.1 ∧ headM ⟨l, i, j⟩ kd k = .ok h2 k' := by
  have hl := fun (k n k' : Nat) (h : levM ⟨l, i', j'⟩ k = .ok n k') => levelM_mono hi hj _ _ _ _ h
  unfold headM at h ⊢
  by_cases h1 : kd = 23
  · rw [if_pos h1] at h ⊢
    obtain ⟨a, k1, e1, g1⟩ := RR.bind_eq_ok h
    obtain ⟨c, k2, e2, g2⟩ := RR.bind_eq_ok g1
    obtain ⟨d, k3, e3, g3⟩ := RR.bind_eq_ok g2
    cases g3
    obtain ⟨c', _, e2'⟩ := hl _ _ _ e2
    obtain ⟨d', _, e3'⟩ := hl _ _ _ e3
    have e1' : symM ⟨l, i, j⟩ k = .ok a k1 := e1
    refine ⟨(a, c', d'), rfl, ?_⟩
    rw [e1', RR.bind_ok]
    show RR.bind (levelM _ _ _) _ = _
    rw [e2', RR.bind_ok]
    show RR.bind (levelM _ _ _) _ = _
    rw [e3', RR.bind_ok]
  rw [if_neg h1] at h ⊢
  by_cases h2 : levelsK kd = 2
  · rw [if_pos h2] at h ⊢
    obtain ⟨c, k2, e2, g2⟩ := RR.bind_eq_ok h
    obtain ⟨d, k3, e3, g3⟩ := RR.bind_eq_ok g2
    cases g3
    obtain ⟨c', _, e2'⟩ := hl _ _ _ e2
    obtain ⟨d', _, e3'⟩ := hl _ _ _ e3
    refine ⟨(0, c', d'), rfl, ?_⟩
    show RR.bind (levelM _ _ _) _ = _
    rw [e2', RR.bind_ok]
    show RR.bind (levelM _ _ _) _ = _
    rw [e3', RR.bind_ok]
  rw [if_neg h2] at h ⊢
  by_cases h3 : levelsK kd = 1
  · rw [if_pos h3] at h ⊢
    obtain ⟨c, k2, e2, g2⟩ := RR.bind_eq_ok h
    cases g2
    obtain ⟨c', _, e2'⟩ := hl _ _ _ e2
    refine ⟨(0, c', 0), rfl, ?_⟩
    show RR.bind (levelM _ _ _) _ = _
    rw [e2', RR.bind_ok]
  · rw [if_neg h3] at h ⊢
    cases h
    exact ⟨_, rfl, rfl⟩

theorem kidsM_mono {F F' : List (List UInt8) → Nat → Nat → RR TT} (hF : ∀ nm want k t k', F' nm want k = .ok t k' → ∃ t2, formT t2 t = true ∧ F nm want k = .ok t2 k') {outer : List (List UInt8)} {kd : Nat} :
    ∀ (c x : Nat) (nm : List (List UInt8)) (acc acc' : List TT) (k : Nat) (ks : List TT) (k' : Nat), formTs acc acc' = true → kidsM ⟨l, i', j'⟩ F' outer kd c x nm acc' k = .ok ks k' → ∃ ks2, formTs ks2 ks = true ∧ kidsM ⟨l, i, j⟩ F outer kd c x nm acc k = .ok ks2 k'
  | 0, x, nm, acc, acc', k, ks, k', ha, h => by
    simp only [kidsM] at h ⊢
    cases h
    exact ⟨acc, ha, rfl⟩
  | c + 1, x, nm, acc, acc', k, ks, k', ha, h => by
    simp only [kidsM] at h ⊢
    obtain ⟨nm1, k1, e1, h1⟩ := RR.bind_eq_ok h
    obtain ⟨t, k2, e2, h2⟩ := RR.bind_eq_ok h1
    have e1' : bindM ⟨l, i, j⟩ kd x nm k = .ok nm1 k1 := e1
    obtain ⟨t2, ht, e2'⟩ := hF _ _ _ _ _ e2
    rw [e1', RR.bind_ok, e2', RR.bind_ok]
    exact kidsM_mono hF c (x + 1) nm1 _ _ k2 ks k' (formTs_append _ _ ha _ _ (by simp [formTs, ht])) h2

theorem bodyM_mono (hi : i ≤ i') (hj : j ≤ j') {F F' : List (List UInt8) → Nat → Nat → RR TT} (hF : ∀ nm want k t k', F' nm want k = .ok t k' → ∃ t2, formT t2 t = true ∧ F nm want k = .ok t2 k') {outer : List (List UInt8)} {kd k k' : Nat} {t : TT} (hk2 : kd ≠ 2)
    (h : bodyM ⟨l, i', j'⟩ F' outer kd k = .ok t k') : ∃ t2, formT t2 t = true ∧ bodyM ⟨l, i, j⟩ F outer kd k = .ok t2 k' := by
  unfold bodyM at h ⊢
  obtain ⟨hd, k1, e1, h1⟩ := RR.bind_eq_ok h
  obtain ⟨nm, k2, e2, h2⟩ := RR.bind_eq_ok h1
  obtain ⟨ks, k3, e3, h3⟩ := RR.bind_eq_ok h2
  obtain ⟨hd2, en, e1'⟩ := headM_mono hi hj e1
  obtain ⟨ks2, hks, e3'⟩ := kidsM_mono hF _ _ _ [] [] _ _ _ rfl e3
  have e2' : (if bindsK kd 1 = 1 then (wordM ⟨l, i, j⟩ k1).bind fun s k2 => .ok [s] k2 else .ok [] k1) = .ok nm k2 := e2
  rw [e1', RR.bind_ok, e2', RR.bind_ok, en, e3', RR.bind_ok]
  unfold closeM at h3 ⊢
  dsimp only at h3 ⊢
  split at h3
  · rename_i hc
    rw [if_pos hc]
    cases h3
    refine ⟨_, ?_, rfl⟩
    simp only [formT, Bool.and_eq_true, beq_iff_eq, Bool.or_eq_true, Bool.not_eq_true']
    refine ⟨⟨⟨trivial, trivial⟩, .inl ?_⟩, hks⟩
    simp; omega
  · cases h3

theorem termM_mono (hi : i ≤ i') (hj : j ≤ j') : ∀ (f : Nat) (nm : List (List UInt8)) (want k : Nat) (t : TT) (k' : Nat), termM ⟨l, i', j'⟩ f nm want k = .ok t k' → ∃ t2, formT t2 t = true ∧ termM ⟨l, i, j⟩ f nm want k = .ok t2 k'
  | 0, _, _, _, _, _, h => by simp [termM] at h
  | f + 1, nm, want, k, t, k', h => by
    unfold termM at h ⊢
    dsimp only at h ⊢
    by_cases h1 : kindAt l k = 3
    · rw [if_pos h1] at h ⊢
      split at h
      · cases h
        exact ⟨_, by simp [formT, formTs], rfl⟩
      · cases h
    rw [if_neg h1] at h ⊢
    by_cases h2 : kindAt l k ≠ 1
    · rw [if_pos h2] at h; cases h
    rw [if_neg h2] at h ⊢
    by_cases h3 : kindAt l (k + 1) ≠ 3
    · rw [if_pos h3] at h; cases h
    rw [if_neg h3] at h ⊢
    by_cases h4 : wrongM want (kindW (textAt l (k + 1))) = true
    · rw [if_pos h4] at h; cases h
    rw [if_neg h4] at h ⊢
    exact bodyM_mono hi hj (fun nm want k t k' h => termM_mono hi hj f nm want k t k' h) (kindW_ne2 _) h

theorem kidsM_same {F F' : List (List UInt8) → Nat → Nat → RR TT} (hF : ∀ nm want k, F nm want k = F' nm want k) {outer : List (List UInt8)} {kd : Nat} (c x : Nat) (nm : List (List UInt8)) (acc : List TT) (k : Nat) : kidsM ⟨l, i, j⟩ F outer kd c x nm acc k = kidsM ⟨l, i, j'⟩ F' outer kd c x nm acc k := by
  obtain rfl : F = F' := by funext nm want k; exact hF nm want k
  induction c generalizing x nm acc k with
  | zero => rfl
  | succ c ih =>
    simp only [kidsM, ih]
    rfl
theorem termM_same (hn : noJ l) : ∀ (f : Nat) (nm : List (List UInt8)) (want k : Nat), termM ⟨l, i, j⟩ f nm want k = termM ⟨l, i, j'⟩ f nm want k
  | 0, _, _, _ => rfl
  | f + 1, nm, want, k => by
    have hl : ∀ k, levM ⟨l, i, j⟩ k = levM ⟨l, i, j'⟩ k := fun k => levelM_same hn _ k
    have hh : ∀ kd k, headM ⟨l, i, j⟩ kd k = headM ⟨l, i, j'⟩ kd k := fun kd k => by
      unfold headM
      simp only [hl]
      rfl
    have hb : ∀ kd k, bodyM ⟨l, i, j⟩ (termM ⟨l, i, j⟩ f) nm kd k = bodyM ⟨l, i, j'⟩ (termM ⟨l, i, j'⟩ f) nm kd k := fun kd k => by
      unfold bodyM
      simp only [hh, kidsM_same (i := i) (j := j) (j' := j') (termM_same hn f)]
      rfl
    unfold termM
    dsimp only
    rw [hb]
end

/-- whole texts -/
theorem readM_mono {text : List UInt8} {nm : List (List UInt8)} {i j i' j' : Nat} (hi : i ≤ i') (hj : j ≤ j') {t : TT} {k : Nat} (h : readM text nm i' j' = .ok t k) : ∃ t2, formT t2 t = true ∧ readM text nm i j = .ok t2 k := by
  unfold readM at h ⊢
  obtain ⟨t1, k1, e1, h1⟩ := RR.bind_eq_ok h
  obtain ⟨t2, ht, e2⟩ := termM_mono hi hj _ _ _ _ _ _ e1
  rw [e2, RR.bind_ok]
  split at h1
  · cases h1
  · rename_i hc
    cases h1
    rw [if_neg hc]
    exact ⟨t2, ht, rfl⟩
theorem readM_same {text : List UInt8} {nm : List (List UInt8)} {i j j' : Nat} (hn : noJ (lexL text).1) : readM text nm i j = readM text nm i j' := by
  unfold readM
  rw [termM_same hn]
end Go.Proofs.YtfklmcmoackepaaDoor

namespace Go.Proofs.YtfklmcmoackepaaDoor
open Go.RowKit

def posAt (l : List Tok) (k : Nat) : Nat := (l[k]?.map Tok.pos).getD 0
/-- the token behind the term that begins here, so deep within brackets -/
def pieceM (l : List Tok) : Nat → Nat → Nat → Option Nat
  | 0, _, _ => none
  | f + 1, k, d =>
    if l.length ≤ k then none
    else if kindAt l k = 1 then pieceM l f (k + 1) (d + 1)
    else if kindAt l k = 2 then (if d = 0 then none else if d = 1 then some (k + 1) else pieceM l f (k + 1) (d - 1))
    else if d = 0 then some (k + 1) else pieceM l f (k + 1) d
def endAt (l : List Tok) (e : Nat) : Nat := posAt l (e - 1) + (textAt l (e - 1)).length
def pieceT (text : List UInt8) (l : List Tok) (a e : Nat) : List UInt8 := (text.drop (posAt l a)).take (endAt l e - posAt l a)
def looks (l : List Tok) : List (Nat × List UInt8) := l.map fun t => (t.kind, t.text)
/-- the piece has just the tokens that it has in the line -/
def okB (text : List UInt8) (l : List Tok) (a e : Nat) : Bool :=
  decide (posAt l a ≤ endAt l e) && decide (endAt l e ≤ text.length) && looks (lexL (pieceT text l a e)).1 == looks ((l.drop a).take (e - a))
/-- the term at a token -/
def oneM (text : List UInt8) (l : List Tok) (nm : List (List UInt8)) (i j a : Nat) : Option (TT × Nat) :=
  match pieceM l l.length a 0 with
  | none => none
  | some e => match readM (pieceT text l a e) nm i j with
    | .bad _ => none
    | .ok t _ => if okB text l a e = true then some (t, e) else none
/-- what a symbol is given, from a token on -/
def paramsM (text : List UInt8) (l : List Tok) (i j : Nat) : Nat → Nat → List (List UInt8) → Option (List TT × List (List UInt8) × Nat)
  | 0, _, _ => none
  | f + 1, k, nm =>
    if kindAt l k ≠ 1 then some ([], nm, k)
    else if kindAt l (k + 1) ≠ 3 then none
    else match oneM text l nm i j (k + 2) with
      | none => none
      | some (t, e) => if kindAt l e ≠ 2 then none else match paramsM text l i j f (e + 1) (nm ++ [textAt l (k + 1)]) with
        | none => none
        | some (ts, nm', k') => some (t :: ts, nm', k')

structure LineM where
  name : List UInt8
  params : List TT
  type : TT
  body : TT
  isDef : Bool
def zeroT : TT := .node 0 0 0 0 []
def wDef : List UInt8 := [100, 101, 102]
/-- the type and the body, from a token on -/
def restM (text : List UInt8) (l : List Tok) (i j : Nat) (nm : List (List UInt8)) (k : Nat) : Option (TT × TT) :=
  match oneM text l nm i j k with
  | none => none
  | some (ty, k2) => if textAt l 1 = wDef then match oneM text l nm i j k2 with
      | none => none
      | some (bd, k3) => if kindAt l k3 = 2 then some (ty, bd) else none
    else if kindAt l k2 = 2 then some (ty, zeroT) else none
def lineM (text : List UInt8) (i j : Nat) : Option LineM :=
  let l := (lexL text).1
  if (lexL text).2 ≠ none ∨ kindAt l 0 ≠ 1 ∨ kindAt l 1 ≠ 3 ∨ kindAt l 2 ≠ 3 ∨ kindAt l 3 ≠ 1 then none
  else match paramsM text l i j l.length 4 [] with
    | none => none
    | some (ps, nm, k) => if kindAt l k ≠ 2 then none else match restM text l i j nm (k + 1) with
      | none => none
      | some (ty, bd) => some ⟨textAt l 2, ps, ty, bd, decide (textAt l 1 = wDef)⟩

/-! ### other levels -/
section
variable {text : List UInt8} {l : List Tok} {i j i' j' : Nat}
theorem oneM_mono (hi : i ≤ i') (hj : j ≤ j') {nm : List (List UInt8)} {a e : Nat} {t : TT} (h : oneM text l nm i' j' a = some (t, e)) : ∃ t2, formT t2 t = true ∧ oneM text l nm i j a = some (t2, e) := by
  unfold oneM at h ⊢
  split at h
  · cases h
  · rename_i e1 he
    split at h
    · cases h
    · rename_i t1 k1 hr
      obtain ⟨t2, hf, h2⟩ := readM_mono hi hj hr
      rw [h2]
      dsimp only
      split at h
      · rename_i hok
        cases h
        exact ⟨t2, hf, by rw [if_pos hok]⟩
      · cases h
theorem paramsM_mono (hi : i ≤ i') (hj : j ≤ j') : ∀ (f k : Nat) (nm : List (List UInt8)) (ps : List TT) (nm' : List (List UInt8)) (k' : Nat), paramsM text l i' j' f k nm = some (ps, nm', k') → ∃ ps2, formTs ps2 ps = true ∧ paramsM text l i j f k nm = some (ps2, nm', k')
  | 0, _, _, _, _, _, h => by simp [paramsM] at h
  | f + 1, k, nm, ps, nm', k', h => by
    unfold paramsM at h ⊢
    by_cases h1 : kindAt l k ≠ 1
    · rw [if_pos h1] at h ⊢
      cases h
      exact ⟨[], rfl, rfl⟩
    rw [if_neg h1] at h ⊢
    by_cases h2 : kindAt l (k + 1) ≠ 3
    · rw [if_pos h2] at h; cases h
    rw [if_neg h2] at h ⊢
    split at h
    · cases h
    · rename_i t e h3
      obtain ⟨t2, hf, h4⟩ := oneM_mono hi hj h3
      rw [h4]
      dsimp only
      by_cases h5 : kindAt l e ≠ 2
      · rw [if_pos h5] at h; cases h
      rw [if_neg h5] at h ⊢
      split at h
      · cases h
      · rename_i ts nm2 k2 h6
        cases h
        obtain ⟨ts2, hfs, h7⟩ := paramsM_mono hi hj f _ _ _ _ _ h6
        rw [h7]
        exact ⟨t2 :: ts2, by simp [formTs, hf, hfs], rfl⟩
theorem restM_mono (hi : i ≤ i') (hj : j ≤ j') {nm : List (List UInt8)} {k : Nat} {ty bd : TT} (h : restM text l i' j' nm k = some (ty, bd)) : ∃ ty2 bd2, formT ty2 ty = true ∧ formT bd2 bd = true ∧ restM text l i j nm k = some (ty2, bd2) := by
  unfold restM at h ⊢
  split at h
  · cases h
  · rename_i ty1 k2 h1
    obtain ⟨t2, hf, h2⟩ := oneM_mono hi hj h1
    rw [h2]
    dsimp only
    by_cases hd : textAt l 1 = wDef
    · rw [if_pos hd] at h ⊢
      split at h
      · cases h
      · rename_i bd1 k3 h3
        obtain ⟨b2, hg, h4⟩ := oneM_mono hi hj h3
        rw [h4]
        dsimp only
        split at h
        · rename_i hk
          cases h
          exact ⟨t2, b2, hf, hg, by rw [if_pos hk]⟩
        · cases h
    · rw [if_neg hd] at h ⊢
      split at h
      · rename_i hk
        cases h
        exact ⟨t2, zeroT, hf, by rfl, by rw [if_pos hk]⟩
      · cases h
end
/-- two symbols alike but for levels -/
def formL (s s' : LineM) : Prop := s.name = s'.name ∧ formTs s.params s'.params = true ∧ formT s.type s'.type = true ∧ formT s.body s'.body = true ∧ s.isDef = s'.isDef
theorem lineM_mono {text : List UInt8} {i j i' j' : Nat} (hi : i ≤ i') (hj : j ≤ j') {s : LineM} (h : lineM text i' j' = some s) : ∃ s2, formL s2 s ∧ lineM text i j = some s2 := by
  unfold lineM at h ⊢
  dsimp only at h ⊢
  split at h
  · cases h
  · rename_i h0
    rw [if_neg h0]
    split at h
    · cases h
    · rename_i ps nm k h1
      obtain ⟨ps2, hps, h2⟩ := paramsM_mono hi hj _ _ _ _ _ _ h1
      rw [h2]
      dsimp only
      by_cases h3 : kindAt (lexL text).1 k ≠ 2
      · rw [if_pos h3] at h; cases h
      rw [if_neg h3] at h ⊢
      split at h
      · cases h
      · rename_i ty bd h4
        obtain ⟨ty2, bd2, hty, hbd, h5⟩ := restM_mono hi hj h4
        rw [h5]
        cases h
        exact ⟨⟨textAt (lexL text).1 2, ps2, ty2, bd2, decide (textAt (lexL text).1 1 = wDef)⟩, ⟨rfl, hps, hty, hbd, rfl⟩, rfl⟩
/-- where no level j is named -/
theorem oneM_same {text : List UInt8} {l : List Tok} {nm : List (List UInt8)} {i j j' a : Nat} (hn : noJ l) : oneM text l nm i j a = oneM text l nm i j' a := by
  unfold oneM
  split
  · rfl
  · rename_i e he
    by_cases hok : okB text l a e = true
    · have hnj : noJ (lexL (pieceT text l a e)).1 := by
        unfold okB at hok
        simp only [Bool.and_eq_true, beq_iff_eq] at hok
        have hl := hok.2
        intro k hk
        have hlt := kindAt_lt (l := (lexL (pieceT text l a e)).1) (k := k) (by omega)
        have e1 : (looks (lexL (pieceT text l a e)).1)[k]? = (looks ((l.drop a).take (e - a)))[k]? := by rw [hl]
        simp only [looks, List.getElem?_map, List.getElem?_eq_getElem hlt, Option.map_some] at e1
        have hlt2 : k < ((l.drop a).take (e - a)).length := by
          have := congrArg List.length hl
          simp only [looks, List.length_map] at this
          omega
        rw [List.getElem?_eq_getElem hlt2] at e1
        simp only [Option.map_some, Option.some.injEq, Prod.mk.injEq] at e1
        have e2 : ((l.drop a).take (e - a))[k]? = l[a + k]? := by
          rw [List.getElem?_take_of_lt (by simp at hlt2; omega), List.getElem?_drop]
        rw [List.getElem?_eq_getElem hlt2] at e2
        refine hn (a + k) ⟨?_, ?_⟩
        · unfold kindAt; rw [← e2, Option.map_some, Option.getD_some, ← e1.1, ← kindAt_eq hlt]; exact hk.1
        · unfold textAt; rw [← e2, Option.map_some, Option.getD_some, ← e1.2, ← textAt_eq hlt]; exact hk.2
      rw [readM_same hnj]
    · simp only [if_neg hok]
      split <;> split <;> rfl
theorem paramsM_same {text : List UInt8} {l : List Tok} {i j j' : Nat} (hn : noJ l) : ∀ (f k : Nat) (nm : List (List UInt8)), paramsM text l i j f k nm = paramsM text l i j' f k nm
  | 0, _, _ => rfl
  | f + 1, k, nm => by
    unfold paramsM
    simp only [oneM_same (j := j) (j' := j') hn, paramsM_same (j := j) (j' := j') hn f]
theorem lineM_same {text : List UInt8} {i j j' : Nat} (hn : noJ (lexL text).1) : lineM text i j = lineM text i j' := by
  unfold lineM restM
  simp only [oneM_same (j := j) (j' := j') hn, paramsM_same (j := j) (j' := j') hn]

/-! ### form: what it keeps -/
mutual
theorem form_free : ∀ (a b : TT) (deep : Int), formT a b = true → freeT a deep = freeT b deep
  | .node k i j n ks, .node k' i' j' n' ks', deep, h => by
    simp only [formT, Bool.and_eq_true, beq_iff_eq, Bool.or_eq_true, Bool.not_eq_true'] at h
    obtain ⟨⟨⟨rfl, rfl⟩, h3⟩, h4⟩ := h
    unfold freeT
    by_cases hk : k = 2
    · rw [if_pos hk, if_pos hk]
      rcases h3 with h3 | h3
      · simp [hk] at h3
      · rw [h3]
    · rw [if_neg hk, if_neg hk]
      exact form_frees ks ks' k 0 deep h4
theorem form_frees : ∀ (a b : List TT) (k : Int) (x : Nat) (deep : Int), formTs a b = true → freeTs k x a deep = freeTs k x b deep
  | [], [], _, _, _, _ => rfl
  | t :: ts, t' :: ts', k, x, deep, h => by
    simp only [formTs, Bool.and_eq_true] at h
    unfold freeTs
    rw [form_free t t' _ h.1, form_frees ts ts' k (x + 1) deep h.2]
  | [], _ :: _, _, _, _, h => by simp [formTs] at h
  | _ :: _, [], _, _, _, h => by simp [formTs] at h
end
theorem form_kd {a b : TT} (h : formT a b = true) : a.kd = b.kd := by
  cases a; cases b
  simp only [formT, Bool.and_eq_true, beq_iff_eq] at h
  exact h.1.1.1
theorem form_length : ∀ {a b : List TT}, formTs a b = true → a.length = b.length
  | [], [], _ => rfl
  | t :: ts, t' :: ts', h => by
    simp only [formTs, Bool.and_eq_true] at h
    simp [form_length h.2]
  | [], _ :: _, h => by simp [formTs] at h
  | _ :: _, [], h => by simp [formTs] at h
theorem form_at : ∀ {a b : List TT} {x : Nat} {t : TT}, formTs a b = true → a[x]? = some t → ∃ t', b[x]? = some t' ∧ formT t t' = true
  | t :: ts, t' :: ts', 0, u, h, hx => by
    simp only [formTs, Bool.and_eq_true] at h
    simp at hx
    subst hx
    exact ⟨t', rfl, h.1⟩
  | t :: ts, t' :: ts', x + 1, u, h, hx => by
    simp only [formTs, Bool.and_eq_true] at h
    simpa using form_at h.2 (by simpa using hx)
  | [], _, _, _, _, hx => by simp at hx
  | _ :: _, [], _, _, h, _ => by simp [formTs] at h
theorem right_two {t : TT} (h : rightT t 0 = true) (hk : sortK t.kd = 0 ∨ sortK t.kd = 2) : plainT t = true := by
  rw [← right_plain]
  cases t with
  | node k i j n ks =>
    simp only [TT.kd] at hk
    unfold rightT at h ⊢
    rcases hk with hk | hk
    · rw [hk] at h ⊢; simpa using h
    · rw [hk] at h ⊢; simpa using h
theorem plain_sort {t : TT} (h : plainT t = true) : sortK t.kd = 0 ∨ sortK t.kd = 2 := by
  cases t with
  | node k i j n ks =>
    simp only [plainT, Bool.and_eq_true, Bool.or_eq_true, beq_iff_eq, decide_eq_true_eq] at h
    simp only [TT.kd]
    unfold sortK
    rcases h.1.1.1 with (h1 | h1) | h1
    · exact .inl (by rw [if_pos (.inl h1)])
    · exact .inl (by rw [if_pos (.inr h1)])
    · exact .inr (by rw [if_neg (by omega), if_neg (by omega)])
end Go.Proofs.YtfklmcmoackepaaDoor

namespace Go.Proofs.YtfklmcmoackepaaDoor
open Go.RowKit

/-- E's tokens stand in E', from d on -/
structure Sh (E E' : REnv) (d : Nat) : Prop where
  len : E.l.length + d ≤ E'.l.length
  at' : ∀ k, k < E.l.length → kindAt E'.l (k + d) = kindAt E.l k ∧ textAt E'.l (k + d) = textAt E.l k
  i : E'.i = E.i
  j : E'.j = E.j
section
variable {E E' : REnv} {d : Nat}
theorem Sh.it (h : Sh E E' d) {k K : Nat} (hK : K = k + d) (hk : kindAt E.l k ≠ 0) : kindAt E'.l K = kindAt E.l k ∧ textAt E'.l K = textAt E.l k := by subst hK; exact h.at' k (kindAt_lt hk)
theorem capM_sh {q Q n k K m k' : Nat} (hK : K = k + d) (hx : capM q n k = .ok m k') : capM Q n K = .ok m (k' + d) := by
  obtain ⟨rfl, rfl, h3⟩ := capM_ok hx
  subst hK
  unfold capM
  rw [if_neg (by omega)]
theorem shutM_sh (h : Sh E E' d) {q Q n k K m k' : Nat} (hK : K = k + d) (hx : shutM E q n k = .ok m k') : shutM E' Q n K = .ok m (k' + d) := by
  unfold shutM at hx ⊢
  by_cases h2 : kindAt E.l k = 2
  · rw [(h.it hK (by omega)).1, if_pos h2]; rw [if_pos h2] at hx; exact capM_sh (by omega) hx
  · rw [if_neg h2] at hx; cases hx
theorem levelM_sh (h : Sh E E' d) : ∀ {f f' k K m k' : Nat}, f ≤ f' → K = k + d → levelM E f k = .ok m k' → levelM E' f' K = .ok m (k' + d)
  | 0, _, _, _, _, _, _, _, hx => by simp [levelM] at hx
  | f + 1, 0, _, _, _, _, hf, _, _ => by omega
  | f + 1, g + 1, k, K, m, k', hf, hK, hx => by
    have hk : kindAt E.l k ≠ 0 := by
      intro h0
      simp [levelM, h0] at hx
    obtain ⟨e1, e2⟩ := h.it hK hk
    unfold levelM at hx ⊢
    rw [e1, e2, h.i, h.j]
    by_cases h4 : kindAt E.l k = 4
    · rw [if_pos h4] at hx ⊢; exact capM_sh (by omega) hx
    rw [if_neg h4] at hx ⊢
    by_cases hi : kindAt E.l k = 3 ∧ textAt E.l k = wI
    · rw [if_pos hi] at hx ⊢; exact capM_sh (by omega) hx
    rw [if_neg hi] at hx ⊢
    by_cases hj : kindAt E.l k = 3 ∧ textAt E.l k = wJ
    · rw [if_pos hj] at hx ⊢; exact capM_sh (by omega) hx
    rw [if_neg hj] at hx ⊢
    by_cases h1 : kindAt E.l k = 1
    · rw [if_pos h1] at hx ⊢
      have hk1 : kindAt E.l (k + 1) ≠ 0 := by
        intro h0
        rw [if_neg (by omega), if_neg (by omega)] at hx
        cases hx
      obtain ⟨e3, e4⟩ := h.it (K := K + 1) (by omega) hk1
      rw [e3, e4]
      by_cases hs : kindAt E.l (k + 1) = 3 ∧ textAt E.l (k + 1) = wSuc
      · rw [if_pos hs] at hx ⊢
        obtain ⟨n, k1, a, b⟩ := RR.bind_eq_ok hx
        rw [levelM_sh h (K := K + 2) (by omega) (by omega) a, RR.bind_ok]
        exact shutM_sh h rfl b
      rw [if_neg hs] at hx ⊢
      by_cases hm : kindAt E.l (k + 1) = 3 ∧ textAt E.l (k + 1) = wMax
      · rw [if_pos hm] at hx ⊢
        obtain ⟨n, k1, a, b⟩ := RR.bind_eq_ok hx
        obtain ⟨n2, k2, c, e⟩ := RR.bind_eq_ok b
        rw [levelM_sh h (K := K + 2) (by omega) (by omega) a, RR.bind_ok, levelM_sh h (by omega) rfl c, RR.bind_ok]
        exact shutM_sh h rfl e
      rw [if_neg hm] at hx; cases hx
    · rw [if_neg h1] at hx; cases hx
theorem levM_sh (h : Sh E E' d) {k K m k' : Nat} (hK : K = k + d) (hx : levM E k = .ok m k') : levM E' K = .ok m (k' + d) := levelM_sh h (by have := h.len; omega) hK hx
theorem wordM_sh (h : Sh E E' d) {k K : Nat} (hK : K = k + d) {s : List UInt8} {k' : Nat} (hx : wordM E k = .ok s k') : wordM E' K = .ok s (k' + d) := by
  unfold wordM at hx ⊢
  by_cases h3 : kindAt E.l k = 3
  · obtain ⟨e1, e2⟩ := h.it hK (by omega)
    rw [e1, e2, if_pos h3]
    rw [if_pos h3] at hx
    cases hx
    congr 1; omega
  · rw [if_neg h3] at hx; cases hx
theorem symM_sh (h : Sh E E' d) {k K n k' : Nat} (hK : K = k + d) (hx : symM E k = .ok n k') : symM E' K = .ok n (k' + d) := by
  unfold symM at hx ⊢
  obtain ⟨s, k1, a, b⟩ := RR.bind_eq_ok hx
  rw [wordM_sh h hK a, RR.bind_ok]
  split at b
  · cases b
  · rename_i hs
    rw [if_neg hs]
    cases b
    rfl
theorem headM_sh (h : Sh E E' d) {kd k K : Nat} (hK : K = k + d) {x : Nat × Nat × Nat} {k' : Nat} (hx : headM E kd k = .ok x k') : headM E' kd K = .ok x (k' + d) := by
  unfold headM at hx ⊢
  by_cases h23 : kd = 23
  · rw [if_pos h23] at hx ⊢
    obtain ⟨n, k1, a, b⟩ := RR.bind_eq_ok hx
    obtain ⟨i, k2, c, e⟩ := RR.bind_eq_ok b
    obtain ⟨j, k3, g, l⟩ := RR.bind_eq_ok e
    rw [symM_sh h hK a, RR.bind_ok, levM_sh h rfl c, RR.bind_ok, levM_sh h rfl g, RR.bind_ok]
    cases l; rfl
  rw [if_neg h23] at hx ⊢
  by_cases h2 : levelsK kd = 2
  · rw [if_pos h2] at hx ⊢
    obtain ⟨i, k2, c, e⟩ := RR.bind_eq_ok hx
    obtain ⟨j, k3, g, l⟩ := RR.bind_eq_ok e
    rw [levM_sh h hK c, RR.bind_ok, levM_sh h rfl g, RR.bind_ok]
    cases l; rfl
  rw [if_neg h2] at hx ⊢
  by_cases h1 : levelsK kd = 1
  · rw [if_pos h1] at hx ⊢
    obtain ⟨i, k2, c, e⟩ := RR.bind_eq_ok hx
    rw [levM_sh h hK c, RR.bind_ok]
    cases e; rfl
  rw [if_neg h1] at hx ⊢
  cases hx
  subst hK; rfl
theorem bindM_sh (h : Sh E E' d) {kd x : Nat} {nm : List (List UInt8)} {k K : Nat} (hK : K = k + d) {nm1 : List (List UInt8)} {k' : Nat} (hx : bindM E kd x nm k = .ok nm1 k') : bindM E' kd x nm K = .ok nm1 (k' + d) := by
  unfold bindM at hx ⊢
  split at hx
  · rename_i hc
    rw [if_pos hc]
    obtain ⟨i, k2, c, e⟩ := RR.bind_eq_ok hx
    obtain ⟨j, k3, g, l⟩ := RR.bind_eq_ok e
    rw [wordM_sh h hK c, RR.bind_ok, wordM_sh h rfl g, RR.bind_ok]
    cases l; rfl
  · rename_i hc
    rw [if_neg hc]
    cases hx
    subst hK; rfl
theorem kidsM_sh (h : Sh E E' d) {F F' : List (List UInt8) → Nat → Nat → RR TT} (hF : ∀ nm want k K t k', K = k + d → F nm want k = .ok t k' → F' nm want K = .ok t (k' + d)) {outer : List (List UInt8)} {kd : Nat} :
    ∀ {c x : Nat} {nm : List (List UInt8)} {acc : List TT} {k K : Nat} {ks : List TT} {k' : Nat}, K = k + d → kidsM E F outer kd c x nm acc k = .ok ks k' → kidsM E' F' outer kd c x nm acc K = .ok ks (k' + d)
  | 0, _, _, _, _, _, _, _, hK, hx => by
    simp only [kidsM] at hx ⊢
    cases hx
    subst hK; rfl
  | c + 1, x, nm, acc, k, K, ks, k', hK, hx => by
    simp only [kidsM] at hx ⊢
    obtain ⟨nm1, k1, a, b⟩ := RR.bind_eq_ok hx
    obtain ⟨t, k2, g, e⟩ := RR.bind_eq_ok b
    rw [bindM_sh h hK a, RR.bind_ok, hF _ _ _ _ _ _ rfl g, RR.bind_ok]
    exact kidsM_sh h hF rfl e
theorem bodyM_sh (h : Sh E E' d) {F F' : List (List UInt8) → Nat → Nat → RR TT} (hF : ∀ nm want k K t k', K = k + d → F nm want k = .ok t k' → F' nm want K = .ok t (k' + d)) {outer : List (List UInt8)} {kd k K : Nat} (hK : K = k + d) {t : TT} {k' : Nat} (hx : bodyM E F outer kd k = .ok t k') : bodyM E' F' outer kd K = .ok t (k' + d) := by
  unfold bodyM at hx ⊢
  obtain ⟨x, k1, a, b⟩ := RR.bind_eq_ok hx
  obtain ⟨nm, k2, c, q⟩ := RR.bind_eq_ok b
  obtain ⟨ks, k3, e, g⟩ := RR.bind_eq_ok q
  have hc : (if bindsK kd 1 = 1 then (wordM E' (k1 + d)).bind fun s k2 => .ok [s] k2 else .ok [] (k1 + d) : RR (List (List UInt8))) = .ok nm (k2 + d) := by
    split at c
    · rename_i hb
      rw [if_pos hb]
      obtain ⟨s, k4, g, i⟩ := RR.bind_eq_ok c
      rw [wordM_sh h rfl g, RR.bind_ok]
      cases i; rfl
    · rename_i hb
      rw [if_neg hb]
      cases c; rfl
  rw [headM_sh h hK a, RR.bind_ok, hc, RR.bind_ok, kidsM_sh h hF rfl e, RR.bind_ok]
  unfold closeM at g ⊢
  by_cases h2 : kindAt E.l k3 = 2
  · rw [(h.it rfl (by omega)).1, if_pos h2]
    rw [if_pos h2] at g
    cases g
    congr 1; omega
  · rw [if_neg h2] at g; cases g
theorem termM_sh (h : Sh E E' d) : ∀ {f f' : Nat} (nm : List (List UInt8)) (want k K : Nat) (t : TT) (k' : Nat), f ≤ f' → K = k + d → termM E f nm want k = .ok t k' → termM E' f' nm want K = .ok t (k' + d)
  | 0, _, _, _, _, _, _, _, _, _, hx => by simp [termM] at hx
  | f + 1, 0, _, _, _, _, _, _, hf, _, _ => by omega
  | f + 1, g + 1, nm, want, k, K, t, k', hf, hK, hx => by
    have hk : kindAt E.l k ≠ 0 := by
      intro h0
      simp [termM, h0] at hx
    obtain ⟨e1, e2⟩ := h.it hK hk
    unfold termM at hx ⊢
    rw [e1, e2]
    by_cases h3 : kindAt E.l k = 3
    · rw [if_pos h3] at hx ⊢
      split at hx
      · cases hx
        congr 1; omega
      · cases hx
    rw [if_neg h3] at hx ⊢
    by_cases h1 : kindAt E.l k = 1
    · rw [if_neg (by omega)] at hx ⊢
      have hk1 : kindAt E.l (k + 1) = 3 := by
        refine Classical.byContradiction fun h0 => ?_
        rw [if_pos h0] at hx
        cases hx
      obtain ⟨e3, e4⟩ := h.it (k := k + 1) (K := K + 1) (by omega) (by omega)
      rw [e3, e4]
      rw [if_neg (by omega)] at hx ⊢
      by_cases hw : wrongM want (kindW (textAt E.l (k + 1))) = true
      · rw [if_pos hw] at hx; cases hx
      · rw [if_neg hw] at hx ⊢
        exact bodyM_sh h (fun nm want k K t k' hK hy => termM_sh h nm want k K t k' (by omega) hK hy) (by omega) hx
    · rw [if_pos h1] at hx; cases hx
end

theorem bodyM_kd {E : REnv} {F : List (List UInt8) → Nat → Nat → RR TT} {outer : List (List UInt8)} {kd k : Nat} {t : TT} {k' : Nat} (hx : bodyM E F outer kd k = .ok t k') : t.kd = kd := by
  unfold bodyM at hx
  obtain ⟨x, k1, a, b⟩ := RR.bind_eq_ok hx
  obtain ⟨nm, k2, c, q⟩ := RR.bind_eq_ok b
  obtain ⟨ks, k3, e, g⟩ := RR.bind_eq_ok q
  unfold closeM at g
  split at g
  · cases g; rfl
  · cases g
/-- a plain term is read where a plain one is wanted -/
theorem termM_two {E : REnv} {f : Nat} {nm : List (List UInt8)} {k : Nat} {t : TT} {k' : Nat} (hx : termM E f nm 0 k = .ok t k') (hp : sortK t.kd = 0 ∨ sortK t.kd = 2) : termM E f nm 2 k = .ok t k' := by
  cases f with
  | zero => simp [termM] at hx
  | succ f =>
    unfold termM at hx ⊢
    by_cases h3 : kindAt E.l k = 3
    · rw [if_pos h3] at hx ⊢; exact hx
    rw [if_neg h3] at hx ⊢
    by_cases h1 : kindAt E.l k ≠ 1
    · rw [if_pos h1] at hx; cases hx
    rw [if_neg h1] at hx ⊢
    by_cases h4 : kindAt E.l (k + 1) ≠ 3
    · rw [if_pos h4] at hx; cases hx
    rw [if_neg h4] at hx ⊢
    by_cases h5 : wrongM 0 (kindW (textAt E.l (k + 1))) = true
    · rw [if_pos h5] at hx; cases hx
    rw [if_neg h5] at hx
    have hkd := bodyM_kd hx
    rw [if_neg]
    · exact hx
    · unfold wrongM at h5 ⊢
      simp only [Bool.or_eq_true, Bool.and_eq_true, beq_iff_eq, decide_eq_true_eq, not_or, not_and] at h5 ⊢
      rw [hkd] at hp
      unfold sortK at hp
      refine ⟨⟨h5.1.1, fun h => by omega⟩, fun h => ?_⟩
      intro h6
      rcases hp with hp | hp
      · split at hp
        · omega
        · split at hp <;> omega
      · split at hp
        · omega
        · split at hp <;> omega

theorem looks_at {l l' : List Tok} (h : looks l = looks l') (k : Nat) : kindAt l k = kindAt l' k ∧ textAt l k = textAt l' k := by
  have e : (looks l)[k]? = (looks l')[k]? := by rw [h]
  simp only [looks, List.getElem?_map] at e
  unfold kindAt textAt
  cases h1 : l[k]? <;> cases h2 : l'[k]? <;> rw [h1, h2] at e <;> simp at e
  · exact ⟨rfl, rfl⟩
  · exact ⟨e.1, e.2⟩
theorem pieceM_lt {l : List Tok} : ∀ {f k d e : Nat}, pieceM l f k d = some e → k < e ∧ e ≤ l.length
  | 0, _, _, _, h => by simp [pieceM] at h
  | f + 1, k, d, e, h => by
    unfold pieceM at h
    repeat' split at h
    all_goals first | (cases h; omega) | (have := pieceM_lt h; omega) | cases h
/-- what the program reads of a piece, the page reads of the line -/
theorem oneM_line {text : List UInt8} {l : List Tok} {nm : List (List UInt8)} {i j a e : Nat} {t : TT} (h : oneM text l nm i j a = some (t, e)) (hp : sortK t.kd = 0 ∨ sortK t.kd = 2) :
    termM ⟨l, i, j⟩ (l.length + 1) nm 2 a = .ok t e ∧ a < e ∧ e ≤ l.length := by
  unfold oneM at h
  split at h
  · cases h
  rename_i e1 he
  obtain ⟨hlt, hle⟩ := pieceM_lt he
  split at h
  · cases h
  rename_i t1 k1 hr
  split at h
  · rename_i hok
    cases h
    obtain ⟨toks, hl, rfl, ht⟩ := readM_parts hr
    unfold okB at hok
    simp only [Bool.and_eq_true, beq_iff_eq] at hok
    have hlk := hok.2
    rw [hl] at hlk
    dsimp only at hlk
    have hlen : toks.length = e - a := by
      have := congrArg List.length hlk
      simp only [looks, List.length_map, List.length_take, List.length_drop] at this
      omega
    have hsh : Sh ⟨toks, i, j⟩ ⟨l, i, j⟩ a := ⟨by dsimp only; omega, fun k hk => by
      dsimp only at hk ⊢
      obtain ⟨e1, e2⟩ := looks_at hlk k
      rw [e1, e2]
      unfold kindAt textAt
      rw [List.getElem?_take_of_lt (by omega), List.getElem?_drop, Nat.add_comm a k]
      exact ⟨rfl, rfl⟩, rfl, rfl⟩
    have h2 := termM_sh hsh (f' := l.length + 1) nm 0 0 a t _ (by omega) (by omega) ht
    refine ⟨termM_two (by rw [h2]; congr 1; omega) hp, hlt, hle⟩
  · cases h
end Go.Proofs.YtfklmcmoackepaaDoor
