/- What is read of tokens is read of any that begin like them: on lists. -/
import Derived.Test.YtfklmcmoackepaaDoorRm
namespace Go.Proofs.YtfklmcmoackepaaDoor
open Go.RowKit

/-- tokens that begin with the same kinds and texts; the same levels -/
structure Ag (E E' : REnv) : Prop where
  len : E.l.length ≤ E'.l.length
  at' : ∀ k, k < E.l.length → kindAt E'.l k = kindAt E.l k ∧ textAt E'.l k = textAt E.l k
  i : E'.i = E.i
  j : E'.j = E.j
theorem Ag.it {E E' : REnv} (h : Ag E E') {k : Nat} (hk : kindAt E.l k ≠ 0) : kindAt E'.l k = kindAt E.l k ∧ textAt E'.l k = textAt E.l k := h.at' k (kindAt_lt hk)

theorem shutM_ag {E E' : REnv} (h : Ag E E') {q n k m k' : Nat} (hx : shutM E q n k = .ok m k') : shutM E' q n k = .ok m k' := by
  unfold shutM at hx ⊢
  by_cases h2 : kindAt E.l k = 2
  · rw [(h.it (by omega)).1, if_pos h2]; rw [if_pos h2] at hx; exact hx
  · rw [if_neg h2] at hx; cases hx
theorem levelM_ag {E E' : REnv} (h : Ag E E') : ∀ {f f' k m k' : Nat}, f ≤ f' → levelM E f k = .ok m k' → levelM E' f' k = .ok m k'
  | 0, _, _, _, _, _, hx => by simp [levelM] at hx
  | f + 1, 0, _, _, _, hf, _ => by omega
  | f + 1, g + 1, k, m, k', hf, hx => by
    have hk : kindAt E.l k ≠ 0 := by
      intro h0
      simp [levelM, h0] at hx
    obtain ⟨e1, e2⟩ := h.it hk
    unfold levelM at hx ⊢
    rw [e1, e2, h.i, h.j]
    by_cases h4 : kindAt E.l k = 4
    · rw [if_pos h4] at hx ⊢; exact hx
    rw [if_neg h4] at hx ⊢
    by_cases hi : kindAt E.l k = 3 ∧ textAt E.l k = wI
    · rw [if_pos hi] at hx ⊢; exact hx
    rw [if_neg hi] at hx ⊢
    by_cases hj : kindAt E.l k = 3 ∧ textAt E.l k = wJ
    · rw [if_pos hj] at hx ⊢; exact hx
    rw [if_neg hj] at hx ⊢
    by_cases h1 : kindAt E.l k = 1
    · rw [if_pos h1] at hx ⊢
      have hk1 : kindAt E.l (k + 1) ≠ 0 := by
        intro h0
        rw [if_neg (by omega), if_neg (by omega)] at hx
        cases hx
      obtain ⟨e3, e4⟩ := h.it hk1
      rw [e3, e4]
      by_cases hs : kindAt E.l (k + 1) = 3 ∧ textAt E.l (k + 1) = wSuc
      · rw [if_pos hs] at hx ⊢
        obtain ⟨n, k1, a, b⟩ := RR.bind_eq_ok hx
        rw [levelM_ag h (by omega) a, RR.bind_ok]
        exact shutM_ag h b
      rw [if_neg hs] at hx ⊢
      by_cases hm : kindAt E.l (k + 1) = 3 ∧ textAt E.l (k + 1) = wMax
      · rw [if_pos hm] at hx ⊢
        obtain ⟨n, k1, a, b⟩ := RR.bind_eq_ok hx
        obtain ⟨n2, k2, c, d⟩ := RR.bind_eq_ok b
        rw [levelM_ag h (by omega) a, RR.bind_ok, levelM_ag h (by omega) c, RR.bind_ok]
        exact shutM_ag h d
      rw [if_neg hm] at hx; cases hx
    · rw [if_neg h1] at hx; cases hx
theorem levM_ag {E E' : REnv} (h : Ag E E') {k m k' : Nat} (hx : levM E k = .ok m k') : levM E' k = .ok m k' := levelM_ag h (by have := h.len; omega) hx
theorem wordM_ag {E E' : REnv} (h : Ag E E') {k : Nat} {s : List UInt8} {k' : Nat} (hx : wordM E k = .ok s k') : wordM E' k = .ok s k' := by
  unfold wordM at hx ⊢
  by_cases h3 : kindAt E.l k = 3
  · obtain ⟨e1, e2⟩ := h.it (k := k) (by omega)
    rw [e1, e2]; exact hx
  · rw [if_neg h3] at hx; cases hx
theorem symM_ag {E E' : REnv} (h : Ag E E') {k n k' : Nat} (hx : symM E k = .ok n k') : symM E' k = .ok n k' := by
  unfold symM at hx ⊢
  obtain ⟨s, k1, a, b⟩ := RR.bind_eq_ok hx
  rw [wordM_ag h a, RR.bind_ok]; exact b
theorem headM_ag {E E' : REnv} (h : Ag E E') {kd k : Nat} {x : Nat × Nat × Nat} {k' : Nat} (hx : headM E kd k = .ok x k') : headM E' kd k = .ok x k' := by
  unfold headM at hx ⊢
  by_cases h23 : kd = 23
  · rw [if_pos h23] at hx ⊢
    obtain ⟨n, k1, a, b⟩ := RR.bind_eq_ok hx
    obtain ⟨i, k2, c, d⟩ := RR.bind_eq_ok b
    obtain ⟨j, k3, e, f⟩ := RR.bind_eq_ok d
    rw [symM_ag h a, RR.bind_ok, levM_ag h c, RR.bind_ok, levM_ag h e, RR.bind_ok]; exact f
  rw [if_neg h23] at hx ⊢
  by_cases h2 : levelsK kd = 2
  · rw [if_pos h2] at hx ⊢
    obtain ⟨i, k2, c, d⟩ := RR.bind_eq_ok hx
    obtain ⟨j, k3, e, f⟩ := RR.bind_eq_ok d
    rw [levM_ag h c, RR.bind_ok, levM_ag h e, RR.bind_ok]; exact f
  rw [if_neg h2] at hx ⊢
  by_cases h1 : levelsK kd = 1
  · rw [if_pos h1] at hx ⊢
    obtain ⟨i, k2, c, d⟩ := RR.bind_eq_ok hx
    rw [levM_ag h c, RR.bind_ok]; exact d
  rw [if_neg h1] at hx ⊢
  exact hx
theorem bindM_ag {E E' : REnv} (h : Ag E E') {kd x : Nat} {nm : List (List UInt8)} {k : Nat} {nm1 : List (List UInt8)} {k' : Nat} (hx : bindM E kd x nm k = .ok nm1 k') : bindM E' kd x nm k = .ok nm1 k' := by
  unfold bindM at hx ⊢
  split at hx
  · rename_i hc
    rw [if_pos hc]
    obtain ⟨i, k2, c, d⟩ := RR.bind_eq_ok hx
    obtain ⟨j, k3, e, f⟩ := RR.bind_eq_ok d
    rw [wordM_ag h c, RR.bind_ok, wordM_ag h e, RR.bind_ok]; exact f
  · rename_i hc
    rw [if_neg hc]; exact hx
theorem kidsM_ag {E E' : REnv} (h : Ag E E') {F F' : List (List UInt8) → Nat → Nat → RR TT} (hF : ∀ nm want k t k', F nm want k = .ok t k' → F' nm want k = .ok t k') {outer : List (List UInt8)} {kd : Nat} :
    ∀ {c x : Nat} {nm : List (List UInt8)} {acc : List TT} {k : Nat} {ks : List TT} {k' : Nat}, kidsM E F outer kd c x nm acc k = .ok ks k' → kidsM E' F' outer kd c x nm acc k = .ok ks k'
  | 0, _, _, _, _, _, _, hx => by simpa [kidsM] using hx
  | c + 1, x, nm, acc, k, ks, k', hx => by
    simp only [kidsM] at hx ⊢
    obtain ⟨nm1, k1, a, b⟩ := RR.bind_eq_ok hx
    obtain ⟨t, k2, d, e⟩ := RR.bind_eq_ok b
    rw [bindM_ag h a, RR.bind_ok, hF _ _ _ _ _ d, RR.bind_ok]
    exact kidsM_ag h hF e
theorem bodyM_ag {E E' : REnv} (h : Ag E E') {F F' : List (List UInt8) → Nat → Nat → RR TT} (hF : ∀ nm want k t k', F nm want k = .ok t k' → F' nm want k = .ok t k') {outer : List (List UInt8)} {kd k : Nat} {t : TT} {k' : Nat} (hx : bodyM E F outer kd k = .ok t k') : bodyM E' F' outer kd k = .ok t k' := by
  unfold bodyM at hx ⊢
  obtain ⟨x, k1, a, b⟩ := RR.bind_eq_ok hx
  obtain ⟨nm, k2, c, d⟩ := RR.bind_eq_ok b
  obtain ⟨ks, k3, e, f⟩ := RR.bind_eq_ok d
  have hc : (if bindsK kd 1 = 1 then (wordM E' k1).bind fun s k2 => .ok [s] k2 else .ok [] k1 : RR (List (List UInt8))) = .ok nm k2 := by
    split at c
    · rename_i hb
      rw [if_pos hb]
      obtain ⟨s, k4, g, i⟩ := RR.bind_eq_ok c
      rw [wordM_ag h g, RR.bind_ok]; exact i
    · rename_i hb
      rw [if_neg hb]; exact c
  rw [headM_ag h a, RR.bind_ok, hc, RR.bind_ok, kidsM_ag h hF e, RR.bind_ok]
  unfold closeM at f ⊢
  by_cases h2 : kindAt E.l k3 = 2
  · rw [(h.it (by omega)).1, if_pos h2]; rw [if_pos h2] at f; exact f
  · rw [if_neg h2] at f; cases f
theorem termM_ag {E E' : REnv} (h : Ag E E') : ∀ {f f' : Nat} (nm : List (List UInt8)) (want k : Nat) (t : TT) (k' : Nat), f ≤ f' → termM E f nm want k = .ok t k' → termM E' f' nm want k = .ok t k'
  | 0, _, _, _, _, _, _, _, hx => by simp [termM] at hx
  | f + 1, 0, _, _, _, _, _, hf, _ => by omega
  | f + 1, g + 1, nm, want, k, t, k', hf, hx => by
    have hk : kindAt E.l k ≠ 0 := by
      intro h0
      simp [termM, h0] at hx
    obtain ⟨e1, e2⟩ := h.it hk
    unfold termM at hx ⊢
    rw [e1, e2]
    by_cases h3 : kindAt E.l k = 3
    · rw [if_pos h3] at hx ⊢; exact hx
    rw [if_neg h3] at hx ⊢
    by_cases h1 : kindAt E.l k = 1
    · rw [if_neg (by omega)] at hx ⊢
      have hk1 : kindAt E.l (k + 1) = 3 := by
        refine Classical.byContradiction fun h0 => ?_
        rw [if_pos h0] at hx
        cases hx
      obtain ⟨e3, e4⟩ := h.it (k := k + 1) (by omega)
      rw [e3, e4]
      rw [if_neg (by omega)] at hx ⊢
      by_cases hw : wrongM want (kindW (textAt E.l (k + 1))) = true
      · rw [if_pos hw] at hx; cases hx
      · rw [if_neg hw] at hx ⊢
        exact bodyM_ag h (fun nm want k t k' hy => termM_ag h nm want k t k' (by omega) hy) hx
    · rw [if_pos h1] at hx; cases hx

/-- a whole text, and another that begins with the same tokens -/
theorem readM_parts {text : List UInt8} {nm : List (List UInt8)} {i j : Nat} {t : TT} {k : Nat} (h : readM text nm i j = .ok t k) :
    ∃ toks, lexL text = (toks, none) ∧ k = toks.length ∧ termM ⟨toks, i, j⟩ (toks.length + 1) nm 0 0 = .ok t k := by
  unfold readM at h
  obtain ⟨t1, k1, e1, h1⟩ := RR.bind_eq_ok h
  split at h1
  · cases h1
  · rename_i hc
    cases h1
    rcases hl : lexL text with ⟨toks, o⟩
    rw [hl] at e1 hc
    dsimp only at e1 hc
    have ho : o = none := by
      refine Classical.byContradiction fun h0 => hc (.inr h0)
    subst ho
    have hm := termM_moves ⟨toks, i, j⟩ (toks.length + 1) nm 0 0 (Nat.zero_le _)
    rw [e1] at hm
    have := hm.2
    dsimp only at this
    exact ⟨toks, rfl, by omega, e1⟩
theorem readM_like {text text' : List UInt8} {nm : List (List UInt8)} {i j : Nat} {t : TT} {k : Nat} {toks toks' : List Tok} (h : readM text nm i j = .ok t k) (hl : lexL text = (toks, none)) (o : Option Nat) (hl' : lexL text' = (toks', o))
    (hlen : toks.length ≤ toks'.length) (hat : ∀ x, x < toks.length → kindAt toks' x = kindAt toks x ∧ textAt toks' x = textAt toks x) :
    readM text' nm i j = if toks.length < toks'.length ∨ o ≠ none then .bad toks.length else .ok t toks.length := by
  obtain ⟨toks2, hl2, hk, ht⟩ := readM_parts h
  rw [hl] at hl2
  obtain ⟨rfl, _⟩ := Prod.mk.inj hl2
  have h2 := termM_ag (E := ⟨toks, i, j⟩) (E' := ⟨toks', i, j⟩) ⟨hlen, hat, rfl, rfl⟩ (f' := toks'.length + 1) nm 0 0 t k (by omega) ht
  unfold readM
  rw [hl']
  dsimp only
  rw [h2, RR.bind_ok, hk]
end Go.Proofs.YtfklmcmoackepaaDoor
