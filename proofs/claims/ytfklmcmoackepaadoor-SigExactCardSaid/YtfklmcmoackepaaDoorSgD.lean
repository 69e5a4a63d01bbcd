/- What the library's lines are, at whatever levels: the plain part. -/
import Derived.Test.YtfklmcmoackepaaDoorSgC
namespace Go.Proofs.YtfklmcmoackepaaDoor
open Go.RowKit

def paramsOK : Nat → List TT → Bool
  | _, [] => true
  | k, t :: ts => plainT t && decide (freeT t 0 ≤ (k : Int)) && paramsOK (k + 1) ts
/-- what a line is at the greatest levels: m is the symbol's number less one -/
def checkL (m : Nat) (text : List UInt8) : Bool := match lineM text 999 999 with
  | none => false
  | some s => (s.params.length : Int) == kidsK 23 (m + 1) && s.name == symK (m + 1) && s.isDef == decide (2 ≤ m) && paramsOK 0 s.params && plainT s.type && decide (freeT s.type 0 ≤ s.params.length) && plainT s.body == s.isDef && decide (freeT s.body 0 ≤ s.params.length) && decide (text.length ≤ 10000)
/-- no level j in a line -/
def checkJ (text : List UInt8) : Bool := (lexL text).1.all fun t => !(t.kind == 3 && t.text == wJ)
theorem noJ_of {text : List UInt8} (h : checkJ text = true) : noJ (lexL text).1 := by
  intro k hk
  have hlt := kindAt_lt (l := (lexL text).1) (k := k) (by omega)
  have h1 := List.all_eq_true.1 h (lexL text).1[k] (List.getElem_mem hlt)
  rw [kindAt_eq hlt, textAt_eq hlt] at hk
  simp [hk.1, hk.2] at h1

section
variable {text : List UInt8} {l : List Tok} {i j : Nat}
theorem one_right {nm : List (List UInt8)} {a e : Nat} {t : TT} (hn : nm.length + 2 * text.length ≤ 2147483600) (h : oneM text l nm i j a = some (t, e)) : rightT t 0 = true := by
  unfold oneM at h
  split at h
  · cases h
  split at h
  · cases h
  rename_i hr
  split at h
  · cases h
    refine (readM_right ?_ hr).1
    have : (pieceT text l a e).length ≤ text.length := by unfold pieceT; rw [List.length_take, List.length_drop]; omega
    omega
  · cases h
theorem params_right : ∀ (f k : Nat) (nm : List (List UInt8)) (ps : List TT) (nm' : List (List UInt8)) (k' : Nat), nm.length + f + 2 * text.length ≤ 2147483600 → paramsM text l i j f k nm = some (ps, nm', k') → (∀ t ∈ ps, rightT t 0 = true) ∧ nm'.length + 2 * text.length ≤ 2147483600
  | 0, _, _, _, _, _, _, h => by simp [paramsM] at h
  | f + 1, k, nm, ps, nm', k', hn, h => by
    unfold paramsM at h
    by_cases h1 : kindAt l k ≠ 1
    · rw [if_pos h1] at h
      cases h
      exact ⟨fun t ht => by simp at ht, by omega⟩
    rw [if_neg h1] at h
    by_cases h2 : kindAt l (k + 1) ≠ 3
    · rw [if_pos h2] at h; cases h
    rw [if_neg h2] at h
    split at h
    · cases h
    · rename_i t e h3
      by_cases h5 : kindAt l e ≠ 2
      · rw [if_pos h5] at h; cases h
      rw [if_neg h5] at h
      split at h
      · cases h
      · rename_i ts nm2 k2 h6
        cases h
        obtain ⟨h7, h8⟩ := params_right f _ _ _ _ _ (by simp; omega) h6
        refine ⟨fun u hu => ?_, h8⟩
        rcases List.mem_cons.1 hu with rfl | hu
        · exact one_right (by omega) h3
        · exact h7 u hu
theorem line_right {s : LineM} (hsz : text.length ≤ 10000) (h : lineM text i j = some s) : (∀ t ∈ s.params, rightT t 0 = true) ∧ rightT s.type 0 = true ∧ (s.isDef = true → rightT s.body 0 = true) ∧ (s.isDef = false → s.body = zeroT) := by
  unfold lineM at h
  dsimp only at h
  have hlen := lexL_length text
  split at h
  · cases h
  split at h
  · cases h
  rename_i ps nm k hp
  obtain ⟨h1, h2⟩ := params_right _ _ _ _ _ _ (by simp; omega) hp
  by_cases hk : kindAt (lexL text).1 k ≠ 2
  · rw [if_pos hk] at h; cases h
  rw [if_neg hk] at h
  split at h
  · cases h
  rename_i ty bd hr
  cases h
  obtain ⟨k2, ho, hx⟩ := rest_parts hr
  refine ⟨h1, one_right h2 ho, ?_, ?_⟩
  · intro hd
    rcases hx with ⟨_, k3, ho3, _⟩ | ⟨hne, _⟩
    · exact one_right h2 ho3
    · exact absurd (of_decide_eq_true hd) hne
  · intro hd
    rcases hx with ⟨he, _⟩ | ⟨_, he, _⟩
    · exact absurd he (of_decide_eq_false hd)
    · exact he
end

theorem form_plain {a b : TT} (h : formT a b = true) (hb : plainT b = true) (ha : rightT a 0 = true) : plainT a = true := right_two ha (by rw [form_kd h]; exact plain_sort hb)
theorem paramsOK_form : ∀ (k : Nat) (a b : List TT), formTs a b = true → (∀ t ∈ a, rightT t 0 = true) → paramsOK k b = true → paramsOK k a = true
  | _, [], [], _, _, _ => rfl
  | k, t :: ts, t' :: ts', h, hr, hb => by
    simp only [formTs, Bool.and_eq_true] at h
    simp only [paramsOK, Bool.and_eq_true, decide_eq_true_eq] at hb ⊢
    refine ⟨⟨form_plain h.1 hb.1.1 (hr t (by simp)), ?_⟩, paramsOK_form (k + 1) ts ts' h.2 (fun u hu => hr u (by simp [hu])) hb.2⟩
    rw [form_free t t' 0 h.1]; exact hb.1.2
  | _, [], _ :: _, h, _, _ => by simp [formTs] at h
  | _, _ :: _, [], h, _, _ => by simp [formTs] at h
theorem paramsOK_at : ∀ {k : Nat} {a : List TT} {x : Nat} {t : TT}, paramsOK k a = true → a[x]? = some t → plainT t = true ∧ freeT t 0 ≤ ((k + x : Nat) : Int)
  | k, u :: us, 0, t, h, hx => by
    simp only [paramsOK, Bool.and_eq_true, decide_eq_true_eq] at h
    simp at hx
    subst hx
    exact ⟨h.1.1, h.1.2⟩
  | k, u :: us, x + 1, t, h, hx => by
    simp only [paramsOK, Bool.and_eq_true, decide_eq_true_eq] at h
    have := paramsOK_at h.2 (by simpa using hx)
    rw [show k + (x + 1) = k + 1 + x by omega]
    exact this
  | _, [], _, _, _, hx => by simp at hx

/-- what a symbol is, at whatever levels -/
structure SymOK (m : Nat) (s : LineM) : Prop where
  len : (s.params.length : Int) = kidsK 23 (m + 1)
  name : s.name = symK (m + 1)
  isDef : s.isDef = decide (2 ≤ m)
  params : paramsOK 0 s.params = true
  type : plainT s.type = true
  typeF : freeT s.type 0 ≤ s.params.length
  body : plainT s.body = s.isDef
  bodyF : freeT s.body 0 ≤ s.params.length
theorem line_sym {m : Nat} {text : List UInt8} (h : checkL m text = true) {i j : Nat} (hi : i < 1000) (hj : j < 1000) : ∃ s s0, lineM text i j = some s ∧ lineM text 999 999 = some s0 ∧ formL s s0 ∧ SymOK m s ∧ text.length ≤ 10000 := by
  unfold checkL at h
  split at h
  · cases h
  rename_i s0 h0
  obtain ⟨s, hf, hs⟩ := lineM_mono (i := i) (j := j) (by omega) (by omega) h0
  simp only [Bool.and_eq_true, beq_iff_eq, decide_eq_true_eq] at h
  obtain ⟨⟨⟨⟨⟨⟨⟨⟨c1, c2⟩, c3⟩, c4⟩, c5⟩, c6⟩, c7⟩, c8⟩, c9⟩ := h
  obtain ⟨f1, f2, f3, f4, f5⟩ := hf
  obtain ⟨r1, r2, r3, r4⟩ := line_right c9 hs
  have hlen := form_length f2
  refine ⟨s, s0, hs, h0, ⟨f1, f2, f3, f4, f5⟩, { len := by rw [hlen]; exact c1, name := by rw [f1]; exact c2, isDef := by rw [f5]; exact c3, params := paramsOK_form 0 _ _ f2 r1 c4, type := form_plain f3 c5 r2, typeF := by rw [form_free _ _ 0 f3, hlen]; exact c6, body := ?_, bodyF := by rw [form_free _ _ 0 f4, hlen]; exact c8 }, c9⟩
  cases hd : s.isDef with
  | true =>
    rw [f5] at hd
    exact form_plain f4 (by rw [c7, hd]) (r3 (by rw [f5, hd]))
  | false =>
    rw [r4 hd]
    rfl
end Go.Proofs.YtfklmcmoackepaaDoor
