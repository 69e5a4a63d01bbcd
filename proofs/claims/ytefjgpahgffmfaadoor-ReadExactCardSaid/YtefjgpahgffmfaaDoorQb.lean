/- What the page's reader reads: how the parts of a list's body join, on lists. Its Want in either mode. -/
import Derived.Test.YtefjgpahgffmfaaDoorQg
import Derived.Test.YtefjgpahgffmfaaDoorRm
namespace Go.Proofs.YtefjgpahgffmfaaDoor
open Go.RowKit

def shutTok (E : REnv) (k : Nat) : RR Unit := if kindAt E.l k = 2 then .ok () (k + 1) else .bad k
theorem closeM_shut (E : REnv) (kd n i j : Nat) (ks : List TT) (k : Nat) : closeM E kd n i j ks k = (shutTok E k).bind fun _ k' => .ok (.node kd i j n ks) k' := by
  unfold closeM shutTok
  split <;> rfl
/-- the name that is bound from the second kid on -/
def nmM (E : REnv) (kd k : Nat) : RR (List (List UInt8)) := if bindsK kd 1 = 1 then (wordM E k).bind fun s k2 => .ok [s] k2 else .ok [] k
theorem nmM_moves (E : REnv) (kd : Nat) {k : Nat} (h : k ≤ E.l.length) : Moves E.l 0 k (nmM E kd k) := by
  unfold nmM
  split
  · exact (wordM_moves E h).bind0 fun s k2 _ h2 => .ok _ h2
  · exact .ok _ h

section
variable {E : REnv} {lv : Value} {b : Nat} {w : World} {nv : Value} {nm : List (List UInt8)} {m : Md}

theorem qwant3 (h : Rq E lv b w nv nm m) : Calls Tryd.prog 75 #[.pointer (some ⟨b, 0, none⟩), .int .i64 3] w fun e w' => ∃ s : List UInt8, e = .returned (.string ⟨s.toArray⟩) ∧ TurnQ E lv b w nv nm (m.go (wordM E)).md w' ∧ ∀ s' k', m.go (wordM E) = .ok s' k' → s = s' := by
  cases m with
  | bad q => exact (qwant_bad 3 h).mono fun e w' ⟨he, ht⟩ => ⟨[], he, ht, fun s' k' hx => by cases hx⟩
  | ok k =>
    simp only [Md.go]
    by_cases hk : kindAt E.l k = 3
    · have e : wordM E k = .ok (textAt E.l k) (k + 1) := by unfold wordM; rw [if_pos hk]
      rw [e]
      exact (qwant_ok 3 (by decide) hk h).mono fun e w' ⟨he, ht⟩ => ⟨_, he, ht, fun s' k' hx => by cases hx; rfl⟩
    · have e : wordM E k = .bad k := by unfold wordM; rw [if_neg hk]
      rw [e]
      exact (qwant_miss 3 hk h).mono fun e w' ⟨he, ht⟩ => ⟨[], he, ht, fun s' k' hx => by cases hx⟩
theorem qwant2 (h : Rq E lv b w nv nm m) : Calls Tryd.prog 75 #[.pointer (some ⟨b, 0, none⟩), .int .i64 2] w fun e w' => ∃ s : List UInt8, e = .returned (.string ⟨s.toArray⟩) ∧ TurnQ E lv b w nv nm (m.go (shutTok E)).md w' := by
  cases m with
  | bad q => exact (qwant_bad 2 h).mono fun e w' ⟨he, ht⟩ => ⟨[], he, ht⟩
  | ok k =>
    simp only [Md.go]
    by_cases hk : kindAt E.l k = 2
    · have e : shutTok E k = .ok () (k + 1) := by unfold shutTok; rw [if_pos hk]
      rw [e]
      exact (qwant_ok 2 (by decide) hk h).mono fun e w' ⟨he, ht⟩ => ⟨_, he, ht⟩
    · have e : shutTok E k = .bad k := by unfold shutTok; rw [if_neg hk]
      rw [e]
      exact (qwant_miss 2 hk h).mono fun e w' ⟨he, ht⟩ => ⟨[], he, ht⟩
end

/-- the numbers behind a list's word, as they are laid -/
def HeadIs (E : REnv) (kd k n i j : Nat) : Prop := ∀ h k', headM E kd k = .ok h k' → h = (n, i, j)
section
variable {E : REnv} {kd k : Nat}
theorem head_none (h23 : kd ≠ 23) (hl : levelsK kd = 0) : (headM E kd k).md = .ok k ∧ HeadIs E kd k 0 0 0 := by
  have e : headM E kd k = .ok (0, 0, 0) k := by unfold headM; rw [if_neg h23, if_neg (by omega), if_neg (by omega)]
  unfold HeadIs
  rw [e]
  exact ⟨rfl, fun h k' hx => by cases hx; rfl⟩
theorem head_one (h23 : kd ≠ 23) (hl : levelsK kd = 1) {i : Nat} (hi : ∀ a k', levM E k = .ok a k' → i = a) : (headM E kd k).md = (levM E k).md ∧ HeadIs E kd k 0 i 0 := by
  have e : headM E kd k = (levM E k).bind fun i k1 => .ok (0, i, 0) k1 := by unfold headM; rw [if_neg h23, if_neg (by omega), if_pos hl]
  unfold HeadIs
  rw [e]
  cases hq : levM E k with
  | bad q => exact ⟨rfl, fun h k' hx => by cases hx⟩
  | ok a k1 =>
    have := hi a k1 hq
    subst this
    exact ⟨rfl, fun h k' hx => by cases hx; rfl⟩
theorem head_two (h23 : kd ≠ 23) (hl : levelsK kd = 2) {i j : Nat} (hi : ∀ a k', levM E k = .ok a k' → i = a) (hj : ∀ a k', (levM E k).md.go (levM E) = .ok a k' → j = a) : (headM E kd k).md = ((levM E k).md.go (levM E)).md ∧ HeadIs E kd k 0 i j := by
  have e : headM E kd k = (levM E k).bind fun i k1 => (levM E k1).bind fun j k2 => .ok (0, i, j) k2 := by unfold headM; rw [if_neg h23, if_pos hl]
  unfold HeadIs
  rw [e]
  cases hq : levM E k with
  | bad q => exact ⟨rfl, fun h k' hx => by cases hx⟩
  | ok a k1 =>
    have := hi a k1 hq
    subst this
    rw [hq] at hj
    simp only [RR.md, Md.go, RR.bind_ok] at hj ⊢
    cases hq2 : levM E k1 with
    | bad q => exact ⟨rfl, fun h k' hx => by cases hx⟩
    | ok c k2 =>
      have := hj c k2 hq2
      subst this
      exact ⟨rfl, fun h k' hx => by cases hx; rfl⟩
theorem head_use (h3 : kindAt E.l k = 3) (hs : symI (textAt E.l k) ≠ 0) {i j : Nat} (hi : ∀ a k', levM E (k + 1) = .ok a k' → i = a) (hj : ∀ a k', (levM E (k + 1)).md.go (levM E) = .ok a k' → j = a) : (headM E 23 k).md = ((levM E (k + 1)).md.go (levM E)).md ∧ HeadIs E 23 k (symI (textAt E.l k)) i j := by
  have e : headM E 23 k = (levM E (k + 1)).bind fun i k1 => (levM E k1).bind fun j k2 => .ok (symI (textAt E.l k), i, j) k2 := by
    unfold headM symM wordM
    rw [if_pos rfl, if_pos h3]
    simp only [RR.bind_ok]
    rw [if_neg hs]
    rfl
  unfold HeadIs
  rw [e]
  cases hq : levM E (k + 1) with
  | bad q => exact ⟨rfl, fun h k' hx => by cases hx⟩
  | ok a k1 =>
    have := hi a k1 hq
    subst this
    rw [hq] at hj
    simp only [RR.md, Md.go, RR.bind_ok] at hj ⊢
    cases hq2 : levM E k1 with
    | bad q => exact ⟨rfl, fun h k' hx => by cases hx⟩
    | ok c k2 =>
      have := hj c k2 hq2
      subst this
      exact ⟨rfl, fun h k' hx => by cases hx; rfl⟩
theorem head_nouse (h : kindAt E.l k ≠ 3 ∨ symI (textAt E.l k) = 0) : headM E 23 k = .bad k := by
  unfold headM symM wordM
  rw [if_pos rfl]
  by_cases h3 : kindAt E.l k = 3
  · rw [if_pos h3]
    simp only [RR.bind_ok]
    rw [if_pos (by omega)]
    rfl
  · rw [if_neg h3]; rfl

def BndOK (kd : Nat) (bnd : List (List UInt8)) : Prop := bnd.length ≤ 2 ∧ (kd ≠ 22 → ∀ y : Nat, 0 < bindsK kd y → bindsK kd y = bnd.length)
theorem binds_one {kd y : Nat} (h : kd ≠ 22) (hp : 0 < bindsK kd y) : bindsK kd y = 1 ∧ bindsK kd 1 = 1 := by
  unfold bindsK at *
  repeat' split at hp
  all_goals first | omega | (constructor <;> (repeat' split) <;> omega)
theorem binds_22_1 {kd : Nat} (h : kd = 22) : bindsK kd 1 ≠ 1 := by subst h; decide
theorem nm_yes (h1 : bindsK kd 1 = 1) (m : Md) {s : List UInt8} (hs : ∀ s' k', m.go (wordM E) = .ok s' k' → s = s') : (m.go (nmM E kd)).md = (m.go (wordM E)).md ∧ ∀ s' k', m.go (nmM E kd) = .ok s' k' → [s] = s' := by
  cases m with
  | bad q => exact ⟨rfl, fun s' k' h => by cases h⟩
  | ok k =>
    simp only [Md.go] at hs ⊢
    unfold nmM
    rw [if_pos h1]
    cases hq : wordM E k with
    | bad q => exact ⟨rfl, fun s' k' h => by cases h⟩
    | ok a k1 =>
      have := hs a k1 hq
      subst this
      exact ⟨rfl, fun s' k' h => by cases h; rfl⟩
theorem nm_no (h1 : bindsK kd 1 ≠ 1) (m : Md) : (m.go (nmM E kd)).md = m ∧ ∀ s' k', m.go (nmM E kd) = .ok s' k' → [] = s' := by
  cases m with
  | bad q => exact ⟨rfl, fun s' k' h => by cases h⟩
  | ok k =>
    simp only [Md.go]
    unfold nmM
    rw [if_neg h1]
    exact ⟨rfl, fun s' k' h => by cases h; rfl⟩
theorem bind_yes {x : Nat} (h : kd = 22 ∧ x = 2) (nm : List (List UInt8)) (m : Md) {y z : List UInt8} (hy : ∀ s' k', m.go (wordM E) = .ok s' k' → y = s') (hz : ∀ s' k', (m.go (wordM E)).md.go (wordM E) = .ok s' k' → z = s') :
    (m.go (bindM E kd x nm)).md = ((m.go (wordM E)).md.go (wordM E)).md ∧ ∀ s' k', m.go (bindM E kd x nm) = .ok s' k' → [y, z] = s' := by
  cases m with
  | bad q => exact ⟨rfl, fun s' k' h => by cases h⟩
  | ok k =>
    simp only [Md.go] at hy ⊢
    unfold bindM
    rw [if_pos h]
    cases hq : wordM E k with
    | bad q => exact ⟨rfl, fun s' k' h => by cases h⟩
    | ok a k1 =>
      have := hy a k1 hq
      subst this
      simp only [Md.go, hq, RR.md, RR.bind_ok] at hz ⊢
      cases hq2 : wordM E k1 with
      | bad q => exact ⟨rfl, fun s' k' h => by cases h⟩
      | ok c k2 =>
        have := hz c k2 hq2
        subst this
        exact ⟨rfl, fun s' k' h => by cases h; rfl⟩
theorem bind_no {x : Nat} (h : ¬ (kd = 22 ∧ x = 2)) (nm : List (List UInt8)) (m : Md) : (m.go (bindM E kd x nm)).md = m ∧ ∀ s' k', m.go (bindM E kd x nm) = .ok s' k' → nm = s' := by
  cases m with
  | bad q => exact ⟨rfl, fun s' k' h => by cases h⟩
  | ok k =>
    simp only [Md.go]
    unfold bindM
    rw [if_neg h]
    exact ⟨rfl, fun s' k' h => by cases h; rfl⟩

/-- behind x of the kids -/
def KidRel (E : REnv) (F : List (List UInt8) → Nat → Nat → RR TT) (outer : List (List UInt8)) (kd c k0 : Nat) (r : RR (List TT)) (x : Nat) (bnd : List (List UInt8)) (rows : List (TT × Value)) : Md → Prop
  | .ok k1 => kidsM E F outer kd (c - x) x bnd (rows.map Prod.fst) k1 = r ∧ k0 ≤ k1
  | .bad q => r = .bad q
variable {F : List (List UInt8) → Nat → Nat → RR TT} {outer bnd bnd' : List (List UInt8)} {c k0 x : Nat} {r : RR (List TT)} {rows : List (TT × Value)} {m : Md}
theorem kid_fuel (h : KidRel E F outer kd c k0 r x bnd rows m) (hle : ∀ k1, m = .ok k1 → k1 ≤ E.l.length) {k1 : Nat} (h1 : (m.go (bindM E kd x bnd)).md = .ok k1) : k0 ≤ k1 := by
  cases m with
  | bad q => cases h1
  | ok q =>
    have hm := bindM_moves E kd x bnd (hle q rfl)
    simp only [Md.go] at h1
    cases hq : bindM E kd x bnd q with
    | bad z => rw [hq] at h1; cases h1
    | ok a z =>
      rw [hq] at h1 hm
      simp only [RR.md, Md.ok.injEq] at h1
      simp only [Moves] at hm
      have := h.2
      omega
theorem kid_step (h : KidRel E F outer kd c k0 r x bnd rows m) (hx : x < c) (hmv : ∀ nm want k, k ≤ E.l.length → Moves E.l 1 k (F nm want k)) (hle : ∀ k1, m = .ok k1 → k1 ≤ E.l.length)
    (hb : ∀ s' k', m.go (bindM E kd x bnd) = .ok s' k' → bnd' = s') {t : TT} {v1 : Value}
    (ht : ∀ t' k', (m.go (bindM E kd x bnd)).md.go (F (if 0 < bindsK kd x then outer ++ bnd' else outer) (ofK kd x).toNat) = .ok t' k' → t' = t) :
    KidRel E F outer kd c k0 r (x + 1) bnd' (rows ++ [(t, v1)]) ((m.go (bindM E kd x bnd)).md.go (F (if 0 < bindsK kd x then outer ++ bnd' else outer) (ofK kd x).toNat)).md := by
  cases m with
  | bad q => exact h
  | ok q =>
    have hm := bindM_moves E kd x bnd (hle q rfl)
    obtain ⟨h1, h2⟩ := h
    rw [show c - x = (c - (x + 1)) + 1 by omega] at h1
    simp only [kidsM] at h1
    simp only [Md.go] at hb ht ⊢
    cases hq : bindM E kd x bnd q with
    | bad z =>
      rw [hq] at h1
      exact h1.symm
    | ok a z =>
      rw [hq] at h1 hm ht
      have := hb a z hq
      subst this
      simp only [Moves] at hm
      simp only [RR.md, RR.bind_ok] at h1 ht ⊢
      have hm2 := hmv (if 0 < bindsK kd x then outer ++ bnd' else outer) (ofK kd x).toNat z hm.2
      cases hq2 : F (if 0 < bindsK kd x then outer ++ bnd' else outer) (ofK kd x).toNat z with
      | bad y =>
        rw [hq2] at h1
        exact h1.symm
      | ok t' y =>
        rw [hq2] at h1 hm2
        have := ht t' y hq2
        subst this
        simp only [Moves] at hm2
        refine ⟨?_, by omega⟩
        rw [← h1]
        simp [RR.bind_ok]
theorem kid_end (h : KidRel E F outer kd c k0 r c bnd rows m) : m = r.md ∧ ∀ ks k', r = .ok ks k' → ks = rows.map Prod.fst := by
  cases m with
  | bad q =>
    have h : r = .bad q := h
    rw [h]
    exact ⟨rfl, fun ks k' h => by cases h⟩
  | ok q =>
    have h1 := h.1
    rw [Nat.sub_self] at h1
    simp only [kidsM] at h1
    rw [← h1]
    exact ⟨rfl, fun ks k' h => by cases h; rfl⟩

/-- the parts of a body joined -/
theorem body_join {n i j : Nat} (hh : HeadIs E kd k n i j) (hb : ∀ s' k', (headM E kd k).md.go (nmM E kd) = .ok s' k' → bnd = s') (hr : r = ((headM E kd k).md.go (nmM E kd)).md.go (kidsM E F outer kd (kidsK kd n).toNat 0 bnd []))
    {t : TT} (ht : ∀ ks k', r = .ok ks k' → t = .node kd i j n ks) : (r.md.go (shutTok E)).md = (bodyM E F outer kd k).md ∧ ∀ t' k', bodyM E F outer kd k = .ok t' k' → t' = t ∧ ∃ ks q, r = .ok ks q := by
  have e : bodyM E F outer kd k = (headM E kd k).bind fun h k1 => (nmM E kd k1).bind fun nm k2 => (kidsM E F outer kd (kidsK kd h.1).toNat 0 nm [] k2).bind fun ks k3 => closeM E kd h.1 h.2.1 h.2.2 ks k3 := rfl
  rw [e]
  cases hq : headM E kd k with
  | bad q =>
    rw [hq] at hr
    rw [hr]
    exact ⟨rfl, fun t' k' h => by cases h⟩
  | ok h k1 =>
    have := hh h k1 hq
    subst this
    rw [hq] at hr hb
    simp only [RR.md, Md.go, RR.bind_ok] at hr hb ⊢
    cases hq2 : nmM E kd k1 with
    | bad q =>
      rw [hq2] at hr
      rw [hr]
      exact ⟨rfl, fun t' k' h => by cases h⟩
    | ok a k2 =>
      have := hb a k2 hq2
      subst this
      rw [hq2] at hr
      simp only [RR.bind_ok] at hr ⊢
      rw [← hr]
      cases r with
      | bad q => exact ⟨rfl, fun t' k' h => by cases h⟩
      | ok ks k3 =>
        have := ht ks k3 rfl
        simp only [RR.bind_ok]
        rw [closeM_shut]
        cases hq4 : shutTok E k3 with
        | bad q => exact ⟨rfl, fun t' k' h => by cases h⟩
        | ok u k4 => exact ⟨rfl, fun t' k' h => by cases h; exact ⟨this.symm, ks, k3, rfl⟩⟩
end
/-- the names are those at the call, or lie in a block that is new -/
def NvOK (w : World) (nv0 nv : Value) : Prop := nv = nv0 ∨ ∀ x, nv.ownBlock = some x → w.heap.size ≤ x
theorem NvOK.next {w w1 : World} {nv0 nv nv' : Value} (h : NvOK w nv0 nv) (hs : w.heap.size ≤ w1.heap.size) (h1 : nv' = nv ∨ ∀ x, nv'.ownBlock = some x → w1.heap.size ≤ x) : NvOK w nv0 nv' := by
  rcases h1 with rfl | h1
  · exact h
  · exact .inr fun x hx => Nat.le_trans hs (h1 x hx)

/-- five cells laid anew in the result's block -/
theorem set5Q {E : REnv} {lv : Value} {b : Nat} {w W W' : World} {nv nv0 : Value} {nm nm0 : List (List UInt8)} {m m0 : Md} (h0 : Rq E lv b w nv0 nm0 m0) (hr : Rq E lv b W nv nm m) (g : w.grownBy W (some b))
    (hres : W.heap[w.heap.size]? = some (.cells #[.int .i64 0, .int .i64 0, .int .i64 0, .int .i64 0, .slice none 0 0] 24 (0, 0))) (hnv : ∀ x, nv.ownBlock = some x → x ≠ w.heap.size) (a c d e f : Value) (hW : set5 W w.heap.size a c d e f = W') :
    W'.heap[w.heap.size]? = some (.cells #[a, c, d, e, f] 24 (0, 0)) ∧ Rq E lv b W' nv nm m ∧ w.grownBy W' (some b) := by
  subst hW
  have hlt := h0.lt
  have g5 := set5_grown W w.heap.size a c d e f
  have hsz := set5_size W w.heap.size a c d e f
  have hx : ∀ x, x ≠ w.heap.size → (set5 W w.heap.size a c d e f).heap[x]? = W.heap[x]? := fun x h1 => set5_other _ _ _ _ _ _ _ h1
  refine ⟨set5_at hres a c d e f, ?_, ?_⟩
  · exact hr.same (by omega) (hx b (by omega)) (fun x hxl => hx x (by have := h0.has.own_lt x hxl; omega)) (fun x hxn => hx x (hnv x hxn))
  · exact ⟨g5.os.trans g.os, g5.tape.trans g.tape, g5.output.trans g.output, by have := g.size; omega, fun x hl hn => (hx x (by omega)).trans (g.block x hl hn)⟩
/-- names of the reader's that lie in a slice of their own -/
theorem GQ.newnames {E : REnv} {lv : Value} {b : Nat} {w : World} {k0 i0 j0 n0 : Int} {nv : Value} {nm : List (List UInt8)} {m : Md} {bv : Value} {bnd : List (List UInt8)} {rows : List (TT × Value)} {v : Value} {wr : World} (h : GQ E lv b w k0 i0 j0 n0 nv nm m bv bnd rows v wr) (l : List (List UInt8)) (hl : l.length ≤ maxLen) (cs : Array Value) (hcs : cs = (textRow l).toArray) :
    GQ E lv b w k0 i0 j0 n0 nv nm m (.slice (some ⟨wr.heap.size, 0, none⟩) l.length l.length) l rows v (wr.alloc (.cells cs 9)) := by
  subst hcs
  refine (h.alloc _).bound ?_ ?_
  · have := World.ownsRow_lit (base := wr.heap.size) (e := 9) (size := 1) wr (textRow l).toArray l.length (Nat.le_refl _) hl (by simp [textRow])
    simpa using Has.of_owns this
  · intro x hx
    simp only [Value.ownBlock, Option.some.injEq] at hx
    subst hx
    exact ⟨h.big, fun he => by have := h.own.lt _ he.symm; omega⟩
theorem in4_of {k i j n : Int} {l : List TT} (h1 : In64 k) (h2 : In64 i) (h3 : In64 j) (h4 : In64 n) : (TT.node k i j n l).in4 := ⟨h1, h2, h3, h4⟩
theorem kidsK_le (k n : Int) : kidsK k n ≤ 13 := by
  have := takesK_le n
  unfold kidsK
  repeat' split
  all_goals omega
end Go.Proofs.YtefjgpahgffmfaaDoor
