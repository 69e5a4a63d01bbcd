/- The reference's deriv, whole; its reader's steps in either mode. Where an allowance stops the reading there is a bracket; the reference's file on lists. Walk of transhipref11.File. Walk of transhipref11.File: no bracket at the beginning. Walk of transhipref11.File: no word file. Walk of transhipref11.File: the rest. -/
import Derived.Test.YtfpiogaakblpeaaDoorRdD
import Derived.Test.YtfpiogaakblpeaaDoorParR
namespace Go.Proofs.YtfpiogaakblpeaaDoor
open Go.RowKit

theorem getN_le (l : List UInt8) : (getN l).getD 0 ≤ 1000000 := by
  cases hq : getN l with
  | none => simp
  | some x => exact (getN_some hq).1

theorem rderiv_any (br bp : Nat) (toks : List Tok) (lv : Value) (df wf : Nat) (hl : toks.length ≤ 1099511627776) (htx : ∀ j, (textAt toks j).length ≤ 1099511627776) :
    ∀ fuel, RDerivC br bp toks lv df wf fuel
  | 0 => fun k n deep w _ hf hk _ _ => absurd hf (by omega)
  | fuel + 1 => fun k n deep w h hf hk hn hdk => by
    have ih := rderiv_any br bp toks lv df wf hl htx fuel
    unfold derivM
    dsimp only
    by_cases h1 : kindAt toks k ≠ 1
    · rw [if_pos h1]; exact rderiv_bad1 br bp toks lv k n df wf deep w h h1
    rw [if_neg h1]
    have h1' : kindAt toks k = 1 := by omega
    by_cases h2 : withinB deep df = false
    · rw [if_pos h2]; exact rderiv_bad2 br bp toks lv k df wf deep w n h h1' h2 (by omega)
    rw [if_neg h2]
    have h2 : withinB deep df = true := by simpa using h2
    by_cases h3 : withinB ((n + 1 : Nat) : Int) wf = false
    · rw [if_pos h3]; exact rderiv_bad3 br bp toks lv k df wf deep w n h h1' h2 h3 (by omega)
    rw [if_neg h3]
    have h3 : withinB ((n : Int) + 1) wf = true := by simpa using h3
    by_cases h4 : kindAt toks (k + 1) ≠ 3 ∨ ruleI (textAt toks (k + 1)) = 0
    · rw [if_pos h4]; exact rderiv_bad4 br bp toks lv k df wf deep w n h h1' h2 h3 (by omega) hl h4
    rw [if_neg h4]
    have h4' : kindAt toks (k + 1) = 3 := by omega
    have hr0 : ruleI (textAt toks (k + 1)) ≠ 0 := fun h => h4 (.inr h)
    have hr28 := ruleI_le (textAt toks (k + 1))
    by_cases h5 : ruleI (textAt toks (k + 1)) = 1 ∨ ruleI (textAt toks (k + 1)) = 2
    · have hnum : numbered (ruleI (textAt toks (k + 1)) : Nat) = true := by
        rcases h5 with h5 | h5 <;> rw [h5] <;> rfl
      have hk0 : kidsI (ruleI (textAt toks (k + 1)) : Nat) = ((0 : Nat) : Int) := by
        rcases h5 with h5 | h5 <;> rw [h5] <;> decide
      rw [if_pos h5]
      by_cases h6 : kindAt toks (k + 2) ≠ 4
      · rw [if_pos h6]
        exact rderiv_go br bp toks lv k df wf deep w fuel n ih h h1' h2 h3 hn hdk hf hl htx h4' _ 0 rfl hr0 hr28 hk0 (by omega) 0 (by omega) (.bad (k + 2) .parse) (.inr (.inl ⟨hnum, rfl, h6, rfl⟩))
      rw [if_neg h6]
      exact rderiv_go br bp toks lv k df wf deep w fuel n ih h h1' h2 h3 hn hdk hf hl htx h4' _ 0 rfl hr0 hr28 hk0 (by omega) _ (getN_le _) (.ok [] (k + 3) (n + 1)) (.inr (.inr ⟨hnum, rfl, by omega, rfl, rfl⟩))
    · have hnum : numbered (ruleI (textAt toks (k + 1)) : Nat) = false := by
        simp only [numbered, Bool.or_eq_false_iff, beq_eq_false_iff_ne]
        omega
      rw [if_neg h5]
      have hk := kidsN_eq _ hr0 hr28
      have hk4 : (kidsI (ruleI (textAt toks (k + 1)))).toNat ≤ 4 := by
        have : ∀ r : Nat, r ≤ 28 → (kidsI r).toNat ≤ 4 := by decide
        exact this _ hr28
      exact rderiv_go br bp toks lv k df wf deep w fuel n ih h h1' h2 h3 hn hdk hf hl htx h4' _ _ rfl hr0 hr28 hk.symm hk4 0 (by omega) _ (.inl ⟨hnum, rfl, rfl⟩)

/-! ### either mode -/
inductive Mode where
  | ok (k n : Nat)
  | bad (k : Nat) (y : Why)
def RSt (br bp : Nat) (toks : List Tok) (lv : Value) (df wf : Nat) (W : World) : Mode → Prop
  | .ok k n => Rp W br bp toks lv k (-1) n ⟨#[]⟩ df wf
  | .bad k y => ∃ at_ n : Int, Rp W br bp toks lv at_ k n (wordOf y) df wf
def Mode.stopped : Mode → Bool
  | .ok _ _ => false
  | .bad _ _ => true
def wantM (toks : List Tok) (kind : Nat) : Mode → Mode
  | .ok k n => if kindAt toks k = kind then .ok (k + 1) n else .bad k .parse
  | .bad k y => .bad k y
def modeOf {α : Type} : Res α → Mode
  | .ok _ k n => .ok k n
  | .bad k y => .bad k y

section
variable {br bp : Nat} {toks : List Tok} {lv : Value} {df wf : Nat} {w w' : World} {m : Mode}
theorem RSt.kept (h : RSt br bp toks lv df wf w m) (hb : Below w.heap.size w w') : RSt br bp toks lv df wf w' m := by
  cases m with
  | ok k n => exact Rp.kept h hb
  | bad k y => obtain ⟨a, n, h⟩ := h; exact ⟨a, n, h.kept hb⟩
theorem RSt.drewN (h : RSt br bp toks lv df wf w m) (x : Nat) : RSt br bp toks lv df wf (w.drewN x) m := by
  cases m with
  | ok k n => exact Rp.drewN h x
  | bad k y => obtain ⟨a, n, h⟩ := h; exact ⟨a, n, h.drewN x⟩
theorem RSt.rp (h : RSt br bp toks lv df wf w m) : ∃ (k bad n : Int) (wd : ByteArray), Rp w br bp toks lv k bad n wd df wf ∧ (m.stopped = decide (0 ≤ bad)) := by
  cases m with
  | ok k n => exact ⟨_, _, _, _, h, rfl⟩
  | bad k y => obtain ⟨a, n, h⟩ := h; exact ⟨_, _, _, _, h, by simp [Mode.stopped]⟩

theorem stop_m (h : RSt br bp toks lv df wf w m) : Calls Tryd.prog 44 #[.pointer (some ⟨bp, 0, none⟩)] w fun e w' => e = .returned (.bool m.stopped) ∧ w' = w := by
  obtain ⟨k, bad, n, wd, h1, h2⟩ := h.rp
  rw [h2]
  exact pstop_any br bp toks lv bad n wd df wf w k h1

theorem want_m (hl : toks.length ≤ 1099511627776) (kind : Nat) (hk0 : kind ≠ 0) (h : RSt br bp toks lv df wf w m) :
    Calls Tryd.prog 43 #[.pointer (some ⟨br, 0, none⟩), .int .i64 kind] w fun e w' => (∃ s, e = .returned (.string s)) ∧ RSt br bp toks lv df wf w' (wantM toks kind m) ∧ Gr2 br bp w w' := by
  cases m with
  | ok k n =>
    have h : Rp w br bp toks lv k (-1) n ⟨#[]⟩ df wf := h
    by_cases hk : kindAt toks k = kind
    · rw [show wantM toks kind (.ok k n) = .ok (k + 1) n from if_pos hk]
      refine (rwant_ok br toks lv _ k 0 0 w kind hk0 hk hl h.rb).mono ?_
      rintro e w1 ⟨rfl, h1, h2, _⟩
      exact ⟨⟨_, rfl⟩, h.moved h1 h2, .left h2⟩
    · rw [show wantM toks kind (.ok k n) = .bad k .parse from if_neg hk]
      refine (rwant_bad br toks lv _ k 0 0 w kind hk h.rb).mono ?_
      rintro e w1 ⟨rfl, h1, h2, _⟩
      exact ⟨⟨_, rfl⟩, ⟨_, _, h.moved h1 h2⟩, .left h2⟩
  | bad k y =>
    obtain ⟨a, n, h⟩ := h
    refine (rwant_stop br toks lv _ k 0 0 w kind a (by omega) h.rb).mono ?_
    rintro e w1 ⟨rfl, rfl⟩
    exact ⟨⟨_, rfl⟩, ⟨a, n, h⟩, .refl _ _ _⟩

/-- what a call of deriv yields in either mode -/
def derivMM (f : Nat → Nat → Res DT) : Mode → Mode
  | .ok k n => modeOf (f k n)
  | .bad k y => .bad k y
theorem deriv_m (hl : toks.length ≤ 1099511627776) (htx : ∀ j, (textAt toks j).length ≤ 1099511627776) (hm : ∀ k n, m = .ok k n → k ≤ toks.length ∧ n ≤ k) (h : RSt br bp toks lv df wf w m) :
    Calls Tryd.prog 48 #[.pointer (some ⟨bp, 0, none⟩), .int .i64 1] w fun e w' => ∃ (r i : Int) (a : Option Addr) (l c : Nat), e = .returned (derivV r i (.slice a l c)) ∧
      RSt br bp toks lv df wf w' (derivMM (derivM ⟨toks, fun m => withinB m df, fun m => withinB m wf⟩ (toks.length + 1) 1) m) ∧ Gr2 br bp w w' ∧
      (∀ k n d k' n', m = .ok k n → derivM ⟨toks, fun m => withinB m df, fun m => withinB m wf⟩ (toks.length + 1) 1 k n = .ok d k' n' → r = d.rule ∧ i = d.idx ∧ RepS w' (fun x => w.heap.size ≤ x) d.kids (.slice a l c) ∧ In64 d.rule ∧ In64 d.idx) := by
  cases m with
  | ok k n =>
    have h : Rp w br bp toks lv k (-1) n ⟨#[]⟩ df wf := h
    have h2 := hm k n rfl
    refine (rderiv_any br bp toks lv df wf hl htx (toks.length + 1) k n 1 w h (by omega) h2.1 h2.2 (by omega)).mono ?_
    intro e w1 h3
    cases hq : derivM ⟨toks, fun m => withinB m df, fun m => withinB m wf⟩ (toks.length + 1) 1 k n with
    | ok d k' n' =>
      rw [hq] at h3
      obtain ⟨v, rfl, h4, h5, h6, h7, h8⟩ := h3
      obtain ⟨_, a, c, rfl⟩ := h4.form
      refine ⟨_, _, _, _, _, rfl, by rw [show derivMM (derivM ⟨toks, fun m => withinB m df, fun m => withinB m wf⟩ (toks.length + 1) 1) (.ok k n) = .ok k' n' from congrArg modeOf hq]; exact h7, h8, ?_⟩
      intro k2 n2 d2 k3 n3 he hq2
      obtain ⟨rfl, rfl⟩ := Mode.ok.inj he
      rw [hq] at hq2
      obtain ⟨rfl, rfl, rfl⟩ := Res.ok.inj hq2
      exact ⟨rfl, rfl, h4, h5, h6⟩
    | bad k' y =>
      rw [hq] at h3
      obtain ⟨r, i, a, l, c, kk, nn, rfl, h4, h5⟩ := h3
      refine ⟨_, _, _, _, _, rfl, by rw [show derivMM (derivM ⟨toks, fun m => withinB m df, fun m => withinB m wf⟩ (toks.length + 1) 1) (.ok k n) = .bad k' y from congrArg modeOf hq]; exact ⟨_, _, h4⟩, h5, ?_⟩
      intro k2 n2 d2 k3 n3 he hq2
      obtain ⟨rfl, rfl⟩ := Mode.ok.inj he
      rw [hq] at hq2
      cases hq2
  | bad k y =>
    obtain ⟨a, n, h⟩ := h
    refine (rderiv_stop br bp toks lv k n (wordOf y) df wf 1 w a (by omega) h).mono ?_
    rintro e w1 ⟨rfl, h1, h2⟩
    exact ⟨_, _, _, _, _, rfl, ⟨_, _, h1⟩, h2, fun k n d k' n' he => by cases he⟩
end
end Go.Proofs.YtfpiogaakblpeaaDoor

namespace Go.Proofs.YtfpiogaakblpeaaDoor
open Go.RowKit

/-- an allowance stops it at an opening bracket -/
def AtOpen (l : List Tok) {α : Type} : Res α → Prop
  | .bad k .deep => kindAt l k = 1
  | .bad k .nodes => kindAt l k = 1
  | _ => True
theorem kidsM_open {l : List Tok} {f : Nat → Nat → Res DT} (h : ∀ k n, AtOpen l (f k n)) : ∀ (c k n : Nat) (acc : List DT), AtOpen l (kidsM f c k n acc)
  | 0, k, n, acc => by simp [kidsM, AtOpen]
  | c + 1, k, n, acc => by
    have h2 := h k n
    unfold kidsM
    cases hq : f k n with
    | bad k' y => rw [hq] at h2; cases y <;> exact h2
    | ok d k' n' => exact kidsM_open h c k' n' _
theorem closeM_open {l : List Tok} {r i : Int} {x : Res (List DT)} (h : AtOpen l x) : AtOpen l (closeM l r i x) := by
  cases x with
  | bad k y => cases y <;> exact h
  | ok ks k n =>
    simp only [closeM]
    split <;> simp [AtOpen]
theorem derivM_open (E : PEnv) : ∀ (f deep k n : Nat), AtOpen E.l (derivM E f deep k n)
  | 0, _, _, _ => by simp [derivM, AtOpen]
  | f + 1, deep, k, n => by
    unfold derivM
    by_cases h1 : kindAt E.l k ≠ 1
    · rw [if_pos h1]; simp [AtOpen]
    have h1' : kindAt E.l k = 1 := by omega
    rw [if_neg h1]
    split
    · exact h1'
    split
    · exact h1'
    split
    · simp [AtOpen]
    split
    · split
      · simp [AtOpen]
      · exact closeM_open (by simp [AtOpen])
    · exact closeM_open (kidsM_open (fun k n => derivM_open E f (deep + 1) k n) _ _ _ _)
theorem ctxM_open {l : List Tok} {f : Nat → Nat → Res DT} (h : ∀ k n, AtOpen l (f k n)) : ∀ (c k n : Nat) (acc : List DT), AtOpen l (ctxM f l c k n acc)
  | 0, k, n, acc => by simp [ctxM, AtOpen]
  | c + 1, k, n, acc => by
    have h2 := h k n
    unfold ctxM
    split
    · simp [AtOpen]
    cases hq : f k n with
    | bad k' y => rw [hq] at h2; cases y <;> exact h2
    | ok d k' n' => exact ctxM_open h c k' n' _

/-- behind the context's bracket -/
def modeC : Res (List DT) → Mode
  | .ok _ k n => .ok (k + 1) n
  | .bad k y => .bad k y
/-- what the reference has behind the last bracket -/
def modeZ (F : Nat → Nat → Res DT) (l : List Tok) (rc : Res (List DT)) : Mode := wantM l 2 (derivMM F (modeC rc))

theorem modeZ_bad {F : Nat → Nat → Res DT} {l : List Tok} {rc : Res (List DT)} {k : Nat} {y : Why} (h : modeZ F l rc = .bad k y) : restM F l rc = .bad k y := by
  unfold modeZ at h
  cases rc with
  | bad k' y' => simp only [modeC, derivMM, wantM, Mode.bad.injEq] at h; obtain ⟨rfl, rfl⟩ := h; rfl
  | ok cs k0 n0 =>
    simp only [modeC, derivMM] at h
    unfold restM
    dsimp only
    cases hq : F (k0 + 1) n0 with
    | bad k' y' => rw [hq] at h; simp only [modeOf, wantM, Mode.bad.injEq] at h; obtain ⟨rfl, rfl⟩ := h; rfl
    | ok d k' n' =>
      rw [hq] at h
      simp only [modeOf, wantM] at h
      dsimp only
      by_cases hk : kindAt l k' = 2
      · rw [if_pos hk] at h; cases h
      · rw [if_neg hk] at h ⊢
        simp only [Mode.bad.injEq] at h
        obtain ⟨rfl, rfl⟩ := h; rfl
theorem modeZ_ok {F : Nat → Nat → Res DT} {l : List Tok} {rc : Res (List DT)} {k n : Nat} (h : modeZ F l rc = .ok k n) : ∃ cs k0 n0 d k', rc = .ok cs k0 n0 ∧ F (k0 + 1) n0 = .ok d k' n ∧ k = k' + 1 ∧ kindAt l k' = 2 ∧
    restM F l rc = if k < l.length then .bad k .parse else .ok (cs, d) k n := by
  unfold modeZ at h
  cases rc with
  | bad k' y' => simp only [modeC, derivMM, wantM] at h; cases h
  | ok cs k0 n0 =>
    simp only [modeC, derivMM] at h
    cases hq : F (k0 + 1) n0 with
    | bad k' y' => rw [hq] at h; simp only [modeOf, wantM] at h; cases h
    | ok d k' n' =>
      rw [hq] at h
      simp only [modeOf, wantM] at h
      by_cases hk : kindAt l k' = 2
      · rw [if_pos hk] at h
        obtain ⟨rfl, rfl⟩ := Mode.ok.inj h
        refine ⟨cs, k0, n0, d, k', rfl, hq, rfl, hk, ?_⟩
        unfold restM
        dsimp only
        rw [hq]
        dsimp only
        rw [if_pos hk]
      · rw [if_neg hk] at h; cases h
theorem restM_open {l : List Tok} {f : Nat → Nat → Res DT} (h : ∀ k n, AtOpen l (f k n)) {x : Res (List DT)} (hx : AtOpen l x) : AtOpen l (restM f l x) := by
  cases x with
  | bad k y => cases y <;> exact hx
  | ok cs k n =>
    have h2 := h (k + 1) n
    unfold restM
    dsimp only
    cases hq : f (k + 1) n with
    | bad k' y => rw [hq] at h2; cases y <;> exact h2
    | ok d k' n' =>
      dsimp only
      split
      · split <;> simp [AtOpen]
      · simp [AtOpen]
theorem derivM_shut (E : PEnv) (f deep k n : Nat) (h : kindAt E.l k ≠ 1) : derivM E (f + 1) deep k n = .bad k .parse := by
  unfold derivM
  rw [if_pos h]
end Go.Proofs.YtfpiogaakblpeaaDoor

namespace Go.Proofs.YtfpiogaakblpeaaDoor
open Go.RowKit

theorem rlex_both (s : ByteArray) (w : World) (toks : List Tok) (f : Option Nat) (hl : lexL s.data.toList = (toks, f)) (hs : s.size ≤ 1099511627776) :
    Calls Tryd.prog 27 #[.string s] w fun e w' => ∃ v, e = .returned (.tuple #[v, .int .i64 (faultI f)]) ∧ w'.ownsRow w.heap.size 51 3 v toks.length (toksCells toks) ∧ Below w.heap.size w w' := by
  cases f with
  | none => exact rlex_ok s w toks hl hs
  | some p => exact rlex_bad s w toks p hl hs

set_option maxHeartbeats 1000000 in
theorem rplace_any (s : ByteArray) (w : World) (toks : List Tok) (f : Option Nat) (hl : lexL s.data.toList = (toks, f)) (lv : Value) (hh : Has w 3 lv toks.length (toksCells toks)) (k : Nat) :
    Calls Tryd.prog 49 #[.string s, lv, .int .i64 (faultI f), .int .i64 k] w fun e w' => e = .returned (.int .i64 (placeM s.data.toList k : Nat)) ∧ w' = w := by
  have HP : Hid (placeM s.data.toList k = match toks[k]? with | some t => t.pos | none => f.getD s.size) := Lib.hid (by
    unfold placeM
    rw [hl]
    dsimp only
    cases toks[k]? <;> simp)
  clear hl
  rcases hh.2 with ⟨rfl, h0⟩ | ⟨bt, o, c, rfl, hn, hb, hcells⟩
  · have hnone : toks[k]? = none := List.getElem?_eq_none (by omega)
    have HV : Hid (placeM s.data.toList k = f.getD s.size) := Lib.hid (by rw [HP.out, hnone])
    have hlt : ¬ (k : Int) < ((0 : Nat) : Int) := by omega
    clear hh h0 hnone HP
    cases f with
    | none =>
      unfold faultI
      go_enter Tryd.func49, Tryd.ntmps49
      go_wp2
      go_ret
      exact ⟨by rw [HV.out]; rfl, rfl⟩
    | some p =>
      unfold faultI
      go_enter Tryd.func49, Tryd.ntmps49
      go_wp2
      go_ret
      exact ⟨by rw [HV.out]; rfl, rfl⟩
  · unfold maxLen at hn
    by_cases hlt : k < toks.length
    · have hat := toksCells_at toks k hlt
      have t2 : w.cell? ⟨bt, o + k * 3 + 2, none⟩ = _ := (hcells (k * 3 + 2) (by omega)).trans hat.2.2
      have HV : Hid (placeM s.data.toList k = toks[k].pos) := Lib.hid (by rw [HP.out, List.getElem?_eq_getElem hlt])
      clear hh hcells hat HP
      generalize toks[k].pos = pp at t2 HV
      go_enter Tryd.func49, Tryd.ntmps49
      go_wp2
      go_ret
      exact ⟨by rw [HV.out]; rfl, rfl⟩
    · have HV : Hid (placeM s.data.toList k = f.getD s.size) := Lib.hid (by rw [HP.out, List.getElem?_eq_none (by omega)])
      clear hh hcells HP
      cases f with
      | none =>
        unfold faultI
        go_enter Tryd.func49, Tryd.ntmps49
        go_wp2
        go_ret
        exact ⟨by rw [HV.out]; rfl, rfl⟩
      | some p =>
        unfold faultI
        go_enter Tryd.func49, Tryd.ntmps49
        go_wp2
        go_ret
        exact ⟨by rw [HV.out]; rfl, rfl⟩

/-- the world in which the parser begins -/
def rdW (w2 : World) (lv : Value) (df wf : Nat) : World := (w2.alloc (.cells (rbCells lv 0 (-1) 0 0 (.slice none 0 0)) 83)).alloc (.cells (pbCells w2.heap.size df wf 0 ⟨#[]⟩) 86)
theorem rdW_below (w2 : World) (lv : Value) (df wf : Nat) : Below w2.heap.size w2 (rdW w2 lv df wf) := (below_alloc _ _).trans ((below_alloc _ _).mono (by simp))
theorem rdW_size (w2 : World) (lv : Value) (df wf : Nat) : (rdW w2 lv df wf).heap.size = w2.heap.size + 2 := by simp [rdW]
theorem rdW_rp (w2 : World) (lv : Value) (df wf : Nat) (toks : List Tok) (hh : Has w2 3 lv toks.length (toksCells toks)) (hlt : ∀ g, lv.ownBlock = some g → g < w2.heap.size) : Rp (rdW w2 lv df wf) w2.heap.size (w2.heap.size + 1) toks lv ((0 : Nat) : Int) (-1) ((0 : Nat) : Int) ⟨#[]⟩ df wf := by
  refine ⟨⟨(Lib.alloc_old _ _ _ (by simp)).trans (new_heap _ _ _), hh.below (rdW_below _ _ _ _), fun he => by have := hlt _ he; omega⟩, ?_, fun he => by have := hlt _ he; omega, by omega⟩
  have := new_heap (w2.alloc (.cells (rbCells lv 0 (-1) 0 0 (.slice none 0 0)) 83)) (pbCells w2.heap.size df wf 0 ⟨#[]⟩) 86
  rw [World.size_alloc] at this
  exact this

/-- how far there is to go -/
def measR (br len : Nat) (wr : World) : Nat := match wr.cell? ⟨br, 2, none⟩ with
  | some (.int _ q) => if q < 0 then (match wr.cell? ⟨br, 1, none⟩ with | some (.int _ k) => len + 1 - k.toNat | _ => 0) else 0
  | _ => 0
theorem measR_ok {W : World} {br bp : Nat} {toks : List Tok} {lv : Value} {k : Nat} {n : Int} {wd : ByteArray} {df wf : Nat} (h : Rp W br bp toks lv k (-1) n wd df wf) (len : Nat) : measR br len W = len + 1 - k := by
  obtain ⟨_, c1, c2, _⟩ := h.rb.at
  unfold measR
  rw [c2, c1]
  simp
theorem measR_bad {W : World} {br bp : Nat} {toks : List Tok} {lv : Value} {a : Int} {k : Nat} {n : Int} {wd : ByteArray} {df wf : Nat} (h : Rp W br bp toks lv a k n wd df wf) (len : Nat) : measR br len W = 0 := by
  obtain ⟨_, c1, c2, _⟩ := h.rb.at
  unfold measR
  rw [c2]
  dsimp only
  rw [if_neg (by omega)]

/-- behind some derivations of the context -/
structure XSt (w3 : World) (br bp : Nat) (toks : List Tok) (lv : Value) (df wf : Nat) (F : Nat → Nat → Res DT) (rc : Res (List DT)) (rows : List (DT × Value)) (v : Value) (wr : World) : Prop where
  gr : Gr2 br bp w3 wr
  own : wr.ownsRow (bp + 1) 24 3 v rows.length (kidCells rows)
  mode : (∃ kk nn : Nat, rc = ctxM F toks (toks.length + 1 - rows.length) kk nn (rows.map Prod.fst) ∧ Rp wr br bp toks lv kk (-1) nn ⟨#[]⟩ df wf ∧ (∀ p ∈ rows, RepS wr (fun x => bp < x ∧ some x ≠ v.ownBlock) p.1.kids p.2 ∧ In64 p.1.rule ∧ In64 p.1.idx) ∧ rows.length ≤ kk ∧ kk ≤ toks.length ∧ nn ≤ kk) ∨
    (∃ (k' : Nat) (y : Why), rc = .bad k' y ∧ RSt br bp toks lv df wf wr (.bad k' y))

section
variable {w3 wr w6 w7 : World} {br bp : Nat} {toks : List Tok} {lv : Value} {df wf : Nat} {F : Nat → Nat → Res DT} {rc : Res (List DT)} {rows : List (DT × Value)} {v : Value} {k n0 n1 : Int} {wd0 : ByteArray}
theorem XSt.turn (h : XSt w3 br bp toks lv df wf F rc rows v wr) (hg6 : Gr2 br bp wr w6) {o : Obj} (hgrow7 : (w6.alloc o).grownBy w7 v.ownBlock) :
    (∀ x, x < wr.heap.size → x ≠ br → x ≠ bp → some x ≠ v.ownBlock → w7.heap[x]? = wr.heap[x]?) ∧ (∀ x, x < w6.heap.size → some x ≠ v.ownBlock → w7.heap[x]? = w6.heap[x]?) ∧
    wr.heap.size ≤ w6.heap.size ∧ w6.heap.size + 1 ≤ w7.heap.size ∧ (∀ x, v.ownBlock = some x → bp + 1 ≤ x ∧ x < wr.heap.size) := by
  have hs7 : w6.heap.size + 1 ≤ w7.heap.size := by have := hgrow7.size; simpa using this
  have hB : ∀ x, x < w6.heap.size → some x ≠ v.ownBlock → w7.heap[x]? = w6.heap[x]? := fun x h1 h3 => by
    rw [hgrow7.block x (by simp; omega) h3, Lib.alloc_old _ _ _ h1]
  exact ⟨fun x h1 h2 h3 h4 => by rw [hB x (by have := hg6.size; omega) h4, hg6.block x h1 h2 h3], hB, hg6.size, hs7, fun x hx => h.own.lt x hx⟩
theorem XSt.rp7 (h0 : Rp w3 br bp toks lv k n0 n1 wd0 df wf) (hz : w3.heap.size = bp + 1) (hbr : br < bp) (h : XSt w3 br bp toks lv df wf F rc rows v wr)
    (hg6 : Gr2 br bp wr w6) {o : Obj} (hgrow7 : (w6.alloc o).grownBy w7 v.ownBlock) : Gr2 br bp w3 w7 ∧ ∀ {k' bad' n' : Int} {wd' : ByteArray}, Rp w6 br bp toks lv k' bad' n' wd' df wf → Rp w7 br bp toks lv k' bad' n' wd' df wf := by
  obtain ⟨hA, hB, hs6, hs7, hv⟩ := h.turn hg6 hgrow7
  have hvw : ∀ x, x < w3.heap.size → some x ≠ v.ownBlock := fun x hx he => by have := hv x he.symm; omega
  have hsw := h.gr.size
  have hg : Gr2 br bp w3 w7 := ⟨(hgrow7.os.trans hg6.os).trans h.gr.os, (hgrow7.tape.trans hg6.tape).trans h.gr.tape, (hgrow7.output.trans hg6.output).trans h.gr.output, by omega, fun x h1 h2 h3 => by rw [hA x (by omega) h2 h3 (hvw x h1)]; exact h.gr.block x h1 h2 h3⟩
  refine ⟨hg, fun hr6 => ⟨⟨?_, h0.rb.has.gr2 hg h0.rb.far h0.pfar, h0.rb.far⟩, ?_, h0.pfar, h0.ne⟩⟩
  · rw [hB br (by omega) (hvw br (by omega))]; exact hr6.rb.cells
  · rw [hB bp (by omega) (hvw bp (by omega))]; exact hr6.pb
theorem XSt.good (h0 : Rp w3 br bp toks lv k n0 n1 wd0 df wf) (hz : w3.heap.size = bp + 1) (hbr : br < bp) (h : XSt w3 br bp toks lv df wf F rc rows v wr)
    (hkids : ∀ p ∈ rows, RepS wr (fun x => bp < x ∧ some x ≠ v.ownBlock) p.1.kids p.2 ∧ In64 p.1.rule ∧ In64 p.1.idx) {k' n' : Nat} {pd : DT} {pv : Value}
    (hkm : rc = ctxM F toks (toks.length + 1 - (rows.length + 1)) k' n' (rows.map Prod.fst ++ [pd])) (hmov : rows.length + 1 ≤ k' ∧ k' ≤ toks.length ∧ n' ≤ k') (hrep1 : RepS w6 (fun x => wr.heap.size ≤ x) pd.kids pv) (hx1 : In64 pd.rule) (hx2 : In64 pd.idx)
    (hr6 : Rp w6 br bp toks lv k' (-1) n' ⟨#[]⟩ df wf) (hg6 : Gr2 br bp wr w6) {o : Obj} (hgrow7 : (w6.alloc o).grownBy w7 v.ownBlock) {g cap : Nat} (hat7 : v.ownBlock = some g ∨ g = w6.heap.size + 1)
    (hown7 : w7.ownsRow (bp + 1) 24 3 (.slice (some ⟨g, 0, none⟩) (rows.length + 1) cap) (rows.length + 1) (kidCells rows ++ [.int .i64 pd.rule, .int .i64 pd.idx, pv])) :
    XSt w3 br bp toks lv df wf F rc (rows ++ [(pd, pv)]) (.slice (some ⟨g, 0, none⟩) (rows.length + 1) cap) w7 := by
  obtain ⟨hA, hB, hs6, hs7, hv⟩ := h.turn hg6 hgrow7
  obtain ⟨hg, hr7⟩ := h.rp7 h0 hz hbr hg6 hgrow7
  have hsw := h.gr.size
  refine { gr := hg, own := by simpa [kidCells_append, kidCells] using hown7, mode := .inl ⟨k', n', by rw [hkm]; simp, hr7 hr6, ?_, by simpa using hmov.1, hmov.2⟩ }
  intro p hp
  rcases List.mem_append.1 hp with hp | hp
  · obtain ⟨h1, h2⟩ := hkids p hp
    refine ⟨h1.kept (by omega) fun x hx hxl => ⟨hA x hxl (by omega) (by omega) hx.2, hx.1, ?_⟩, h2⟩
    simp only [Value.ownBlock]
    rcases hat7 with h' | h'
    · rw [← h']; exact hx.2
    · simp; omega
  · obtain rfl : p = (pd, pv) := by simpa using hp
    refine ⟨hrep1.kept (by omega) fun x hx hxl => ⟨hB x hxl (fun he => by have := hv x he.symm; omega), by omega, ?_⟩, hx1, hx2⟩
    simp only [Value.ownBlock]
    rcases hat7 with h' | h'
    · have := hv g h'; simp; omega
    · simp; omega
theorem XSt.badly (h0 : Rp w3 br bp toks lv k n0 n1 wd0 df wf) (hz : w3.heap.size = bp + 1) (hbr : br < bp) (h : XSt w3 br bp toks lv df wf F rc rows v wr)
    {k' : Nat} {y : Why} {at_ n : Int} (hkm : rc = .bad k' y) (hr6 : Rp w6 br bp toks lv at_ k' n (wordOf y) df wf) (hg6 : Gr2 br bp wr w6) {o : Obj} (hgrow7 : (w6.alloc o).grownBy w7 v.ownBlock) {g cap : Nat}
    {r1 i1 : Int} {pv : Value} (hown7 : w7.ownsRow (bp + 1) 24 3 (.slice (some ⟨g, 0, none⟩) (rows.length + 1) cap) (rows.length + 1) (kidCells rows ++ [.int .i64 r1, .int .i64 i1, pv])) :
    XSt w3 br bp toks lv df wf F rc (rows ++ [(.node r1 i1 [], pv)]) (.slice (some ⟨g, 0, none⟩) (rows.length + 1) cap) w7 := by
  obtain ⟨hg, hr7⟩ := h.rp7 h0 hz hbr hg6 hgrow7
  exact { gr := hg, own := by simpa [kidCells_append, kidCells, DT.rule, DT.idx] using hown7, mode := .inr ⟨k', y, hkm, at_, n, hr7 hr6⟩ }
end

theorem four_list {α : Type} : ∀ {l : List α}, l.length = 4 → ∃ a b c d, l = [a, b, c, d]
  | [a, b, c, d], _ => ⟨a, b, c, d, rfl⟩
/-- four cells laid -/
theorem four_end {X : World} {R : Nat} {cs : Array Value} {t : TypeId} {fr : Nat × Nat} (h : X.heap[R]? = some (.cells cs t fr)) (hc : cs.size = 4) (a b c d : Value) :
    ∃ Y, ((((X.setCell ⟨R, 0, none⟩ a).setCell ⟨R, 1, none⟩ b).setCell ⟨R, 2, none⟩ c).setCell ⟨R, 3, none⟩ d) = Y ∧ Y.heap[R]? = some (.cells #[a, b, c, d] t fr) ∧ Below R X Y ∧ (∀ x, x ≠ R → Y.heap[x]? = X.heap[x]?) ∧ Y.heap.size = X.heap.size := by
  refine ⟨_, rfl, ?_, ?_, ?_, by simp [World.setCell]⟩
  · have h1 := heap_set (heap_set (heap_set (heap_set h 0 a) 1 b) 2 c) 3 d
    rw [h1]
    congr 2
    obtain ⟨l⟩ := cs
    obtain ⟨x0, x1, x2, x3, rfl⟩ := four_list hc
    rfl
  · exact ((((Below.refl R X).setCell (p := ⟨R, 0, none⟩) (Nat.le_refl _) a).setCell (p := ⟨R, 1, none⟩) (Nat.le_refl _) b).setCell (p := ⟨R, 2, none⟩) (Nat.le_refl _) c).setCell (p := ⟨R, 3, none⟩) (Nat.le_refl _) d
  · intro x hx
    rw [Below.heap_setCell _ _ _ _ hx, Below.heap_setCell _ _ _ _ hx, Below.heap_setCell _ _ _ _ hx, Below.heap_setCell _ _ _ _ hx]

end Go.Proofs.YtfpiogaakblpeaaDoor

namespace Go.Proofs.YtfpiogaakblpeaaDoor
open Go.RowKit

set_option maxRecDepth 100000 in
set_option maxHeartbeats 8000000 in
theorem rfile_a (s : ByteArray) (df wf : Nat) (w : World) (hs : s.size ≤ 1099511627776) (h0 : kindAt (lexL s.data.toList).1 0 ≠ 1) :
    Calls Tryd.prog 22 #[.string s, .float .f64 df, .float .f64 wf] w (FileSays w s.data.toList df wf) := by
  have HS := Lib.hid hs
  obtain ⟨toks, fault, hlx⟩ : ∃ toks f, lexL s.data.toList = (toks, f) := ⟨_, _, rfl⟩
  have hl : toks.length ≤ 1099511627776 := by
    have h1 := lexL_length s.data.toList
    have h2 : s.data.toList.length = s.size := by simp
    rw [hlx] at h1
    dsimp only at h1
    omega
  have HTX : Hid (∀ j, (textAt toks j).length ≤ 1099511627776) := Lib.hid (fun j => by
    have h2 : s.data.toList.length = s.size := by simp
    by_cases hj : j < toks.length
    · rw [textAt_eq hj]
      cases fault with
      | none => have := spans_pos _ 0 toks (spans_lexL _ _ hlx) j hj; omega
      | some p =>
        have := spans_pos _ 0 toks (spans_lexL _ _ (lexL_cut hlx)) j hj
        rw [List.length_take] at this
        omega
    · rw [textAt_ge (by omega)]; simp)
  have HLX := Lib.hid hlx
  have HWH : Hid (wholeM (fun m => withinB m df) (fun m => withinB m wf) s.data.toList = match fileM ⟨toks, fun m => withinB m df, fun m => withinB m wf⟩ with
      | .bad k y => .bad k y
      | .ok x k n => if fault = none then .ok x k n else .bad k .parse) := Lib.hid (by
    unfold wholeM
    rw [hlx]
    dsimp only
    cases fileM ⟨toks, fun m => withinB m df, fun m => withinB m wf⟩ <;> rfl)
  obtain ⟨F, hF⟩ : ∃ F, derivM ⟨toks, fun m => withinB m df, fun m => withinB m wf⟩ (toks.length + 1) 1 = F := ⟨_, rfl⟩
  have HFF := Lib.hid hF
  have HMOV : Hid (∀ k n, k ≤ toks.length → Moves toks k n (F k n)) := Lib.hid (fun k n hk => by rw [← hF]; exact derivM_moves ⟨toks, fun m => withinB m df, fun m => withinB m wf⟩ (toks.length + 1) 1 k n hk)
  have HOP : Hid (∀ k n, AtOpen toks (F k n)) := Lib.hid (fun k n => by rw [← hF]; exact derivM_open ⟨toks, fun m => withinB m df, fun m => withinB m wf⟩ (toks.length + 1) 1 k n)
  have HSHUT : Hid (∀ k n, kindAt toks k ≠ 1 → F k n = .bad k .parse) := Lib.hid (fun k n h => by rw [← hF]; exact derivM_shut ⟨toks, fun m => withinB m df, fun m => withinB m wf⟩ toks.length 1 k n h)
  obtain ⟨i0, hi, hi0, hi1, hi2⟩ := info_parts Tryd.infoDeriv
  have HINF := Lib.hid (And.intro hi (And.intro hi0 (And.intro hi1 hi2)))
  rw [hlx] at h0
  have H0 := Lib.hid h0
  clear h0
  clear hs hlx hF hi hi0 hi1 hi2
  go_enter Tryd.func22, Tryd.ntmps22
  go_wp2_with fail
  refine (rlex_both s _ toks fault HLX.out HS.out).mono ?_
  rintro e w2 ⟨v, rfl, hown2, hb2⟩
  have hh2 := Has.of_owns hown2
  have hlt2 : ∀ g, v.ownBlock = some g → g < w2.heap.size := fun g hg => (hown2.lt g hg).2
  obtain ⟨a5, c5, rfl⟩ := hh2.slice
  have HR3 := Lib.hid (rdW_rp w2 (.slice a5 toks.length c5) df wf toks hh2 hlt2)
  have hsz2 : w.heap.size + 1 ≤ w2.heap.size := by have := hb2.size; simpa using this
  have hb3 := (below_alloc w (.cells #[.slice none 0 0, .int .i64 0, .int .i64 0, .slice none 0 0] 26)).trans ((hb2.trans ((rdW_below w2 (.slice a5 toks.length c5) df wf).mono hb2.size)).mono (by simp))
  have HB3 := Lib.hid hb3
  have hres3 : (rdW w2 (.slice a5 toks.length c5) df wf).heap[w.heap.size]? = some (.cells #[.slice none 0 0, .int .i64 0, .int .i64 0, .slice none 0 0] 26 (0, 0)) := by
    rw [(rdW_below w2 (.slice a5 toks.length c5) df wf).block _ (by omega), hb2.block _ (by simp)]
    exact new_heap _ _ _
  have HRES3 := Lib.hid hres3
  have hz3 := rdW_size w2 (.slice a5 toks.length c5) df wf
  have hrbt : ∀ g, (Value.slice a5 toks.length c5).ownBlock = some g → w.heap.size + 1 ≤ g := fun g hg => by have := (hown2.lt g hg).1; simpa using this
  obtain ⟨br, hbr⟩ : ∃ br, br = w2.heap.size := ⟨_, rfl⟩
  obtain ⟨W3, hW3⟩ : ∃ W3, W3 = rdW w2 (.slice a5 toks.length c5) df wf := ⟨_, rfl⟩
  clear hown2 hh2 hlt2 hb2 hb3 hres3
  go_wp2_with fail
  rw [show ((w2.alloc (.cells #[.slice a5 toks.length c5, .int .i64 0, .int .i64 (-1), .int .i64 0, .int .i64 0, .slice none 0 0] 83)).alloc (.cells #[.pointer (some ⟨w2.heap.size, 0, none⟩), .float .f64 df, .float .f64 wf, .int .i64 0, .string ⟨#[]⟩] 86)) = W3 from hW3.symm]
  rw [← hW3] at HR3 HB3 HRES3 hz3
  rw [← hbr] at HR3 hz3 hsz2
  rw [← hbr]
  clear hW3 hbr
  have hbw : w.heap.size < br := by omega
  refine (rwant_bad br toks _ _ 0 0 0 _ 1 H0.out HR3.out.rb).mono ?_
  rintro e w4 ⟨rfl, hrb4, hg4, _⟩
  have hr4 := HR3.out.moved hrb4 hg4
  have GW4 := Lib.hid (Gr2.left (bp := br + 1) hg4)
  have HR4 := Lib.hid hr4
  clear hrb4 hg4 hr4
  go_wp2_with fail
  refine (pstop_any br (br + 1) toks _ _ _ _ df wf _ _ HR4.out).mono ?_
  rintro e w4' ⟨rfl, rfl⟩
  obtain ⟨c0, c1, c2, c3, c4, c5'⟩ := HR4.out.rb.at
  have f1 := HR4.out.rb.fz 1
  have hbl := HR4.out.rb.lt
  go_wp2_with fail
  have RM : Hid (RSt br (br + 1) toks (.slice a5 toks.length c5) df wf (w4'.setCell ⟨br, 1, none⟩ (.int .i64 1)) (.bad 0 .parse)) := Lib.hid ⟨_, _, HR4.out.set1 _⟩
  have GW := Lib.hid (GW4.out.trans (.left (grown_set (grown_refl w4' (some br)) 1 (.int .i64 1))))
  generalize w4'.setCell ⟨br, 1, none⟩ (.int .i64 1) = W at *
  clear c0 c1 c2 c3 c4 c5' f1 hbl HR4 GW4
  have HFM : Hid (fileM ⟨toks, fun m => withinB m df, fun m => withinB m wf⟩ = .bad 0 .parse) := Lib.hid (by
    unfold fileM
    dsimp only
    rw [if_pos H0.out])
  refine (want_m (m := .bad 0 .parse) hl 1 (by decide) RM.out).mono ?_
  rintro e w8 ⟨⟨sq, rfl⟩, hm8, hg8⟩
  have RM8 : Hid (RSt br (br + 1) toks (.slice a5 toks.length c5) df wf w8 (.bad 0 .parse)) := Lib.hid hm8
  have GW8 := Lib.hid (GW.out.trans hg8)
  clear hm8 hg8
  go_wp2_with fail
  go_loopw [14] (fun v wr => v = .slice none 0 0 ∧ Gr2 br (br + 1) W3 wr ∧ RSt br (br + 1) toks (.slice a5 toks.length c5) df wf wr (.bad 0 .parse)) (fun _ _ => 0)
  case atStart => exact ⟨rfl, GW8.out, RM8.out⟩
  case round =>
    obtain ⟨rfl, hg9, hr9⟩ := hrel
    have GW9 := Lib.hid hg9
    have RM9 := Lib.hid hr9
    clear hg9 hr9
    go_wp2_with fail
    refine (stop_m (m := .bad 0 .parse) RM9.out).mono ?_
    rintro e w9 ⟨rfl, rfl⟩
    simp only [Mode.stopped]
    go_wp2_with fail
    refine (want_m (m := .bad 0 .parse) hl 2 (by decide) RM9.out).mono ?_
    rintro e w11 ⟨⟨sq2, rfl⟩, hm11, hg11⟩
    have RM11 : Hid (RSt br (br + 1) toks (.slice a5 toks.length c5) df wf w11 (.bad 0 .parse)) := Lib.hid hm11
    have GW11 := Lib.hid (GW9.out.trans hg11)
    clear hm11 hg11
    go_wp2_with fail
    refine (deriv_m (m := .bad 0 .parse) hl HTX.out (fun k n h => by cases h) RM11.out).mono ?_
    rintro e w12 ⟨r, i, a, l, c, rfl, hm12, hg12, _⟩
    have RM12 : Hid (RSt br (br + 1) toks (.slice a5 toks.length c5) df wf (w12.alloc (.cells #[.slice none 0 0, .int .i64 r, .int .i64 i, .slice a l c] 26)) (.bad 0 .parse)) := Lib.hid (RSt.kept (m := .bad 0 .parse) hm12 (below_alloc _ _))
    have GW12 := Lib.hid ((GW11.out.trans hg12).trans (.below (below_alloc w12 (.cells #[.slice none 0 0, .int .i64 r, .int .i64 i, .slice a l c] 26))))
    clear hm12 hg12
    unfold derivV
    go_wp2_with fail
    refine (want_m (m := .bad 0 .parse) hl 2 (by decide) RM12.out).mono ?_
    rintro e w13 ⟨⟨sq3, rfl⟩, hm13, hg13⟩
    have RZ : Hid (RSt br (br + 1) toks (.slice a5 toks.length c5) df wf w13 (.bad 0 .parse)) := Lib.hid hm13
    have GZ := Lib.hid (GW12.out.trans hg13)
    clear hm13 hg13
    obtain ⟨k, hkb⟩ : ∃ k : Nat, k = 0 := ⟨_, rfl⟩
    have HWB : Hid (wholeM (fun m => withinB m df) (fun m => withinB m wf) s.data.toList = .bad k .parse) := Lib.hid (by rw [HWH.out, HFM.out, hkb])
    have RZ2 : Hid (RSt br (br + 1) toks (.slice a5 toks.length c5) df wf w13 (.bad k .parse)) := Lib.hid (by rw [hkb]; exact RZ.out)
    clear hkb
    obtain ⟨at_, nz, hrz⟩ := RZ2.out
    have HRZ := Lib.hid hrz
    clear hrz
    go_wp2_with fail
    refine (pstop_any br (br + 1) toks _ _ nz _ df wf _ at_ HRZ.out).mono ?_
    rintro e w14 ⟨rfl, rfl⟩
    rw [show decide ((0 : Int) ≤ (k : Int)) = true by simp]
    go_wp2_with fail
    refine (pstop_any br (br + 1) toks _ _ nz _ df wf _ at_ HRZ.out).mono ?_
    rintro e w15 ⟨rfl, rfl⟩
    rw [show decide ((0 : Int) ≤ (k : Int)) = true by simp]
    obtain ⟨p0, p1, p2, p3, p4⟩ := HRZ.out.pat
    obtain ⟨c0, c1, c2, c3, c4, c5'⟩ := HRZ.out.rb.at
    have hres := (GZ.out.block w.heap.size (by omega) (by omega) (by omega)).trans HRES3.out
    have HRESZ := Lib.hid hres
    have g0 : w15.frozen? ⟨w.heap.size, 0, none⟩ = false := by simp only [World.frozen?, hres]; rfl
    have g1 : w15.frozen? ⟨w.heap.size, 1, none⟩ = false := by simp only [World.frozen?, hres]; rfl
    have g2 : w15.frozen? ⟨w.heap.size, 2, none⟩ = false := by simp only [World.frozen?, hres]; rfl
    have g3 : w15.frozen? ⟨w.heap.size, 3, none⟩ = false := by simp only [World.frozen?, hres]; rfl
    have r0 : w15.cell? ⟨w.heap.size, 0, none⟩ = some (.slice none 0 0) := by simp only [World.cell?, hres]; rfl
    have r1 : w15.cell? ⟨w.heap.size, 1, none⟩ = some (.int .i64 0) := by simp only [World.cell?, hres]; rfl
    have r2 : w15.cell? ⟨w.heap.size, 2, none⟩ = some (.int .i64 0) := by simp only [World.cell?, hres]; rfl
    have r3 : w15.cell? ⟨w.heap.size, 3, none⟩ = some (.slice none 0 0) := by simp only [World.cell?, hres]; rfl
    have hltz : w.heap.size < w15.heap.size := (Array.getElem?_eq_some_iff.1 hres).1
    clear hres
    simp only [wordOf] at p4
    go_wp2_with fail
    refine (rplace_any s _ toks _ HLX.out _ HRZ.out.rb.has k).mono ?_
    rintro e w16 ⟨rfl, rfl⟩
    go_wp2_with fail
    obtain ⟨Y, hY, hYc, hYb, _, _⟩ := four_end HRESZ.out rfl (.slice none 0 0) (.int .i64 0) (.int .i64 0) (.slice none 0 0)
    rw [hY]
    have u0 : Y.cell? ⟨w.heap.size, 0, none⟩ = some (.slice none 0 0) := by simp only [World.cell?, hYc]; rfl
    have u1 : Y.cell? ⟨w.heap.size, 1, none⟩ = some (.int .i64 0) := by simp only [World.cell?, hYc]; rfl
    have u2 : Y.cell? ⟨w.heap.size, 2, none⟩ = some (.int .i64 0) := by simp only [World.cell?, hYc]; rfl
    have u3 : Y.cell? ⟨w.heap.size, 3, none⟩ = some (.slice none 0 0) := by simp only [World.cell?, hYc]; rfl
    have HPOST : Hid (FileSays w s.data.toList df wf (.returned (.tuple #[.agg #[.slice none 0 0, .int .i64 0, .int .i64 0, .slice none 0 0], .int .i64 2, .int .i64 (placeM s.data.toList k : Nat), .string ⟨#[]⟩])) Y) := Lib.hid (by
      unfold FileSays
      rw [HWB.out]
      exact ⟨rfl, HB3.out.trans ((below_of_gr2 GZ.out (by omega) (by omega) HB3.out.size).trans hYb)⟩)
    clear hY hYc hYb
    exact bodyPost_ret (v := .tuple #[.agg #[.slice none 0 0, .int .i64 0, .int .i64 0, .slice none 0 0], .int .i64 2, .int .i64 (placeM s.data.toList k : Nat), .string ⟨#[]⟩]) (by simp [results, Tryd.results22, go_sem, u0, u1, u2, u3]) rfl HPOST.out
end Go.Proofs.YtfpiogaakblpeaaDoor

namespace Go.Proofs.YtfpiogaakblpeaaDoor
open Go.RowKit

set_option maxRecDepth 100000 in
set_option maxHeartbeats 8000000 in
theorem rfile_b (s : ByteArray) (df wf : Nat) (w : World) (hs : s.size ≤ 1099511627776) (h0 : kindAt (lexL s.data.toList).1 0 = 1) (hne : kindAt (lexL s.data.toList).1 1 ≠ 3 ∨ textAt (lexL s.data.toList).1 1 ≠ wordFile) :
    Calls Tryd.prog 22 #[.string s, .float .f64 df, .float .f64 wf] w (FileSays w s.data.toList df wf) := by
  have HS := Lib.hid hs
  obtain ⟨toks, fault, hlx⟩ : ∃ toks f, lexL s.data.toList = (toks, f) := ⟨_, _, rfl⟩
  have hl : toks.length ≤ 1099511627776 := by
    have h1 := lexL_length s.data.toList
    have h2 : s.data.toList.length = s.size := by simp
    rw [hlx] at h1
    dsimp only at h1
    omega
  have HTX : Hid (∀ j, (textAt toks j).length ≤ 1099511627776) := Lib.hid (fun j => by
    have h2 : s.data.toList.length = s.size := by simp
    by_cases hj : j < toks.length
    · rw [textAt_eq hj]
      cases fault with
      | none => have := spans_pos _ 0 toks (spans_lexL _ _ hlx) j hj; omega
      | some p =>
        have := spans_pos _ 0 toks (spans_lexL _ _ (lexL_cut hlx)) j hj
        rw [List.length_take] at this
        omega
    · rw [textAt_ge (by omega)]; simp)
  have HLX := Lib.hid hlx
  have HWH : Hid (wholeM (fun m => withinB m df) (fun m => withinB m wf) s.data.toList = match fileM ⟨toks, fun m => withinB m df, fun m => withinB m wf⟩ with
      | .bad k y => .bad k y
      | .ok x k n => if fault = none then .ok x k n else .bad k .parse) := Lib.hid (by
    unfold wholeM
    rw [hlx]
    dsimp only
    cases fileM ⟨toks, fun m => withinB m df, fun m => withinB m wf⟩ <;> rfl)
  obtain ⟨F, hF⟩ : ∃ F, derivM ⟨toks, fun m => withinB m df, fun m => withinB m wf⟩ (toks.length + 1) 1 = F := ⟨_, rfl⟩
  have HFF := Lib.hid hF
  have HMOV : Hid (∀ k n, k ≤ toks.length → Moves toks k n (F k n)) := Lib.hid (fun k n hk => by rw [← hF]; exact derivM_moves ⟨toks, fun m => withinB m df, fun m => withinB m wf⟩ (toks.length + 1) 1 k n hk)
  have HOP : Hid (∀ k n, AtOpen toks (F k n)) := Lib.hid (fun k n => by rw [← hF]; exact derivM_open ⟨toks, fun m => withinB m df, fun m => withinB m wf⟩ (toks.length + 1) 1 k n)
  have HSHUT : Hid (∀ k n, kindAt toks k ≠ 1 → F k n = .bad k .parse) := Lib.hid (fun k n h => by rw [← hF]; exact derivM_shut ⟨toks, fun m => withinB m df, fun m => withinB m wf⟩ toks.length 1 k n h)
  obtain ⟨i0, hi, hi0, hi1, hi2⟩ := info_parts Tryd.infoDeriv
  have HINF := Lib.hid (And.intro hi (And.intro hi0 (And.intro hi1 hi2)))
  rw [hlx] at h0 hne
  have H0 := Lib.hid h0
  have H1 : Hid (kindAt toks 1 ≠ 3 ∨ textAt toks 1 ≠ wordFile) := Lib.hid hne
  clear h0 hne
  clear hs hlx hF hi hi0 hi1 hi2
  go_enter Tryd.func22, Tryd.ntmps22
  go_wp2_with fail
  refine (rlex_both s _ toks fault HLX.out HS.out).mono ?_
  rintro e w2 ⟨v, rfl, hown2, hb2⟩
  have hh2 := Has.of_owns hown2
  have hlt2 : ∀ g, v.ownBlock = some g → g < w2.heap.size := fun g hg => (hown2.lt g hg).2
  obtain ⟨a5, c5, rfl⟩ := hh2.slice
  have HR3 := Lib.hid (rdW_rp w2 (.slice a5 toks.length c5) df wf toks hh2 hlt2)
  have hsz2 : w.heap.size + 1 ≤ w2.heap.size := by have := hb2.size; simpa using this
  have hb3 := (below_alloc w (.cells #[.slice none 0 0, .int .i64 0, .int .i64 0, .slice none 0 0] 26)).trans ((hb2.trans ((rdW_below w2 (.slice a5 toks.length c5) df wf).mono hb2.size)).mono (by simp))
  have HB3 := Lib.hid hb3
  have hres3 : (rdW w2 (.slice a5 toks.length c5) df wf).heap[w.heap.size]? = some (.cells #[.slice none 0 0, .int .i64 0, .int .i64 0, .slice none 0 0] 26 (0, 0)) := by
    rw [(rdW_below w2 (.slice a5 toks.length c5) df wf).block _ (by omega), hb2.block _ (by simp)]
    exact new_heap _ _ _
  have HRES3 := Lib.hid hres3
  have hz3 := rdW_size w2 (.slice a5 toks.length c5) df wf
  have hrbt : ∀ g, (Value.slice a5 toks.length c5).ownBlock = some g → w.heap.size + 1 ≤ g := fun g hg => by have := (hown2.lt g hg).1; simpa using this
  obtain ⟨br, hbr⟩ : ∃ br, br = w2.heap.size := ⟨_, rfl⟩
  obtain ⟨W3, hW3⟩ : ∃ W3, W3 = rdW w2 (.slice a5 toks.length c5) df wf := ⟨_, rfl⟩
  clear hown2 hh2 hlt2 hb2 hb3 hres3
  go_wp2_with fail
  rw [show ((w2.alloc (.cells #[.slice a5 toks.length c5, .int .i64 0, .int .i64 (-1), .int .i64 0, .int .i64 0, .slice none 0 0] 83)).alloc (.cells #[.pointer (some ⟨w2.heap.size, 0, none⟩), .float .f64 df, .float .f64 wf, .int .i64 0, .string ⟨#[]⟩] 86)) = W3 from hW3.symm]
  rw [← hW3] at HR3 HB3 HRES3 hz3
  rw [← hbr] at HR3 hz3 hsz2
  rw [← hbr]
  clear hW3 hbr
  have hbw : w.heap.size < br := by omega
  refine (rwant_ok br toks _ _ 0 0 0 _ 1 (by decide) H0.out hl HR3.out.rb).mono ?_
  rintro e w4 ⟨rfl, hrb4, hg4, _⟩
  have hr4 := HR3.out.moved hrb4 hg4
  have GW4 := Lib.hid (Gr2.left (bp := br + 1) hg4)
  have HR4 : Hid (Rp w4 br (br + 1) toks (.slice a5 toks.length c5) ((1 : Nat) : Int) (-1) ((0 : Nat) : Int) ⟨#[]⟩ df wf) := Lib.hid (by simpa using hr4)
  clear hrb4 hg4 hr4
  go_wp2_with fail
  refine (pstop_any br (br + 1) toks _ _ _ _ df wf _ _ HR4.out).mono ?_
  rintro e w4' ⟨rfl, rfl⟩
  go_wp2_with fail
  refine (rkind_any br toks _ _ 1 _ 0 0 _ HR4.out.rb).mono ?_
  rintro e w5 ⟨rfl, m5, rfl⟩
  have HR5 := Lib.hid (HR4.out.drewN m5)
  have GW5 := Lib.hid (GW4.out.drewN m5)
  by_cases h1 : kindAt toks 1 = 3
  case neg =>
    have hv1 : ((kindAt toks 1 : Int) != 3) = true := by simp; omega
    have HRX := HR5
    have GWX := GW5
    generalize w4'.drewN m5 = X at *
    clear h1 HR5 GW5
    have hrx := HRX.out.rb.at
    obtain ⟨c0, c1, c2, c3, c4, c5'⟩ := hrx
    go_wp2_with fail
    refine (rfail_new br toks _ _ 1 0 0 _ _ HRX.out.rb).mono ?_
    rintro e w6 ⟨rfl, rfl⟩
    have hrx2 := HRX.out.set2 ((1 : Nat) : Int)
    have f1 := hrx2.rb.fz 1
    have hbl := hrx2.rb.lt
    have HRX2 := Lib.hid hrx2
    have GX2 := Lib.hid (GWX.out.trans (.left (grown_set (grown_refl X (some br)) 2 (.int .i64 ((1 : Nat) : Int)))))
    generalize hX2 : X.setCell ⟨br, 2, none⟩ (.int .i64 ((1 : Nat) : Int)) = X2 at *
    clear hX2 hrx2 c0 c1 c2 c3 c4 c5'
    obtain ⟨c0, c1, c2, c3, c4, c5'⟩ := HRX2.out.rb.at
    go_wp2_with fail
    have RM : Hid (RSt br (br + 1) toks (.slice a5 toks.length c5) df wf (X2.setCell ⟨br, 1, none⟩ (.int .i64 2)) (.bad 1 .parse)) := Lib.hid ⟨_, _, HRX2.out.set1 _⟩
    have GW := Lib.hid (GX2.out.trans (.left (grown_set (grown_refl X2 (some br)) 1 (.int .i64 2))))
    generalize X2.setCell ⟨br, 1, none⟩ (.int .i64 2) = W at *
    clear c0 c1 c2 c3 c4 c5' f1 hbl HRX2 GX2 HRX GWX
    have HFM : Hid (fileM ⟨toks, fun m => withinB m df, fun m => withinB m wf⟩ = .bad 1 .parse) := Lib.hid (by
      unfold fileM
      dsimp only
      rw [if_neg (by have := H0.out; omega), if_pos H1.out])
    refine (want_m (m := .bad 1 .parse) hl 1 (by decide) RM.out).mono ?_
    rintro e w8 ⟨⟨sq, rfl⟩, hm8, hg8⟩
    have RM8 : Hid (RSt br (br + 1) toks (.slice a5 toks.length c5) df wf w8 (.bad 1 .parse)) := Lib.hid hm8
    have GW8 := Lib.hid (GW.out.trans hg8)
    clear hm8 hg8
    go_wp2_with fail
    go_loopw [14] (fun v wr => v = .slice none 0 0 ∧ Gr2 br (br + 1) W3 wr ∧ RSt br (br + 1) toks (.slice a5 toks.length c5) df wf wr (.bad 1 .parse)) (fun _ _ => 0)
    case atStart => exact ⟨rfl, GW8.out, RM8.out⟩
    case round =>
      obtain ⟨rfl, hg9, hr9⟩ := hrel
      have GW9 := Lib.hid hg9
      have RM9 := Lib.hid hr9
      clear hg9 hr9
      go_wp2_with fail
      refine (stop_m (m := .bad 1 .parse) RM9.out).mono ?_
      rintro e w9 ⟨rfl, rfl⟩
      simp only [Mode.stopped]
      go_wp2_with fail
      refine (want_m (m := .bad 1 .parse) hl 2 (by decide) RM9.out).mono ?_
      rintro e w11 ⟨⟨sq2, rfl⟩, hm11, hg11⟩
      have RM11 : Hid (RSt br (br + 1) toks (.slice a5 toks.length c5) df wf w11 (.bad 1 .parse)) := Lib.hid hm11
      have GW11 := Lib.hid (GW9.out.trans hg11)
      clear hm11 hg11
      go_wp2_with fail
      refine (deriv_m (m := .bad 1 .parse) hl HTX.out (fun k n h => by cases h) RM11.out).mono ?_
      rintro e w12 ⟨r, i, a, l, c, rfl, hm12, hg12, _⟩
      have RM12 : Hid (RSt br (br + 1) toks (.slice a5 toks.length c5) df wf (w12.alloc (.cells #[.slice none 0 0, .int .i64 r, .int .i64 i, .slice a l c] 26)) (.bad 1 .parse)) := Lib.hid (RSt.kept (m := .bad 1 .parse) hm12 (below_alloc _ _))
      have GW12 := Lib.hid ((GW11.out.trans hg12).trans (.below (below_alloc w12 (.cells #[.slice none 0 0, .int .i64 r, .int .i64 i, .slice a l c] 26))))
      clear hm12 hg12
      unfold derivV
      go_wp2_with fail
      refine (want_m (m := .bad 1 .parse) hl 2 (by decide) RM12.out).mono ?_
      rintro e w13 ⟨⟨sq3, rfl⟩, hm13, hg13⟩
      have RZ : Hid (RSt br (br + 1) toks (.slice a5 toks.length c5) df wf w13 (.bad 1 .parse)) := Lib.hid hm13
      have GZ := Lib.hid (GW12.out.trans hg13)
      clear hm13 hg13
      obtain ⟨k, hkb⟩ : ∃ k : Nat, k = 1 := ⟨_, rfl⟩
      have HWB : Hid (wholeM (fun m => withinB m df) (fun m => withinB m wf) s.data.toList = .bad k .parse) := Lib.hid (by rw [HWH.out, HFM.out, hkb])
      have RZ2 : Hid (RSt br (br + 1) toks (.slice a5 toks.length c5) df wf w13 (.bad k .parse)) := Lib.hid (by rw [hkb]; exact RZ.out)
      clear hkb
      obtain ⟨at_, nz, hrz⟩ := RZ2.out
      have HRZ := Lib.hid hrz
      clear hrz
      go_wp2_with fail
      refine (pstop_any br (br + 1) toks _ _ nz _ df wf _ at_ HRZ.out).mono ?_
      rintro e w14 ⟨rfl, rfl⟩
      rw [show decide ((0 : Int) ≤ (k : Int)) = true by simp]
      go_wp2_with fail
      refine (pstop_any br (br + 1) toks _ _ nz _ df wf _ at_ HRZ.out).mono ?_
      rintro e w15 ⟨rfl, rfl⟩
      rw [show decide ((0 : Int) ≤ (k : Int)) = true by simp]
      obtain ⟨p0, p1, p2, p3, p4⟩ := HRZ.out.pat
      obtain ⟨c0, c1, c2, c3, c4, c5'⟩ := HRZ.out.rb.at
      have hres := (GZ.out.block w.heap.size (by omega) (by omega) (by omega)).trans HRES3.out
      have HRESZ := Lib.hid hres
      have g0 : w15.frozen? ⟨w.heap.size, 0, none⟩ = false := by simp only [World.frozen?, hres]; rfl
      have g1 : w15.frozen? ⟨w.heap.size, 1, none⟩ = false := by simp only [World.frozen?, hres]; rfl
      have g2 : w15.frozen? ⟨w.heap.size, 2, none⟩ = false := by simp only [World.frozen?, hres]; rfl
      have g3 : w15.frozen? ⟨w.heap.size, 3, none⟩ = false := by simp only [World.frozen?, hres]; rfl
      have r0 : w15.cell? ⟨w.heap.size, 0, none⟩ = some (.slice none 0 0) := by simp only [World.cell?, hres]; rfl
      have r1 : w15.cell? ⟨w.heap.size, 1, none⟩ = some (.int .i64 0) := by simp only [World.cell?, hres]; rfl
      have r2 : w15.cell? ⟨w.heap.size, 2, none⟩ = some (.int .i64 0) := by simp only [World.cell?, hres]; rfl
      have r3 : w15.cell? ⟨w.heap.size, 3, none⟩ = some (.slice none 0 0) := by simp only [World.cell?, hres]; rfl
      have hltz : w.heap.size < w15.heap.size := (Array.getElem?_eq_some_iff.1 hres).1
      clear hres
      simp only [wordOf] at p4
      go_wp2_with fail
      refine (rplace_any s _ toks _ HLX.out _ HRZ.out.rb.has k).mono ?_
      rintro e w16 ⟨rfl, rfl⟩
      go_wp2_with fail
      obtain ⟨Y, hY, hYc, hYb, _, _⟩ := four_end HRESZ.out rfl (.slice none 0 0) (.int .i64 0) (.int .i64 0) (.slice none 0 0)
      rw [hY]
      have u0 : Y.cell? ⟨w.heap.size, 0, none⟩ = some (.slice none 0 0) := by simp only [World.cell?, hYc]; rfl
      have u1 : Y.cell? ⟨w.heap.size, 1, none⟩ = some (.int .i64 0) := by simp only [World.cell?, hYc]; rfl
      have u2 : Y.cell? ⟨w.heap.size, 2, none⟩ = some (.int .i64 0) := by simp only [World.cell?, hYc]; rfl
      have u3 : Y.cell? ⟨w.heap.size, 3, none⟩ = some (.slice none 0 0) := by simp only [World.cell?, hYc]; rfl
      have HPOST : Hid (FileSays w s.data.toList df wf (.returned (.tuple #[.agg #[.slice none 0 0, .int .i64 0, .int .i64 0, .slice none 0 0], .int .i64 2, .int .i64 (placeM s.data.toList k : Nat), .string ⟨#[]⟩])) Y) := Lib.hid (by
        unfold FileSays
        rw [HWB.out]
        exact ⟨rfl, HB3.out.trans ((below_of_gr2 GZ.out (by omega) (by omega) HB3.out.size).trans hYb)⟩)
      clear hY hYc hYb
      exact bodyPost_ret (v := .tuple #[.agg #[.slice none 0 0, .int .i64 0, .int .i64 0, .slice none 0 0], .int .i64 2, .int .i64 (placeM s.data.toList k : Nat), .string ⟨#[]⟩]) (by simp [results, Tryd.results22, go_sem, u0, u1, u2, u3]) rfl HPOST.out
  have hv1 : ((kindAt toks 1 : Int) != 3) = false := by simp; omega
  have h2 := H1.out.resolve_left (by omega)
  clear h1
  go_wp2_with fail
  refine (rword_at br toks _ _ 1 _ 0 0 _ HR5.out.rb).mono ?_
  rintro e w6 ⟨rfl, m6, rfl⟩
  have HR6 := Lib.hid (HR5.out.drewN m6)
  have GW6 := Lib.hid (GW5.out.drewN m6)
  generalize (w4'.drewN m5).drewN m6 = X at *
  clear HR5 GW5
  have hne : (textAt toks 1 == [102, 105, 108, 101]) = false := by simpa [wordFile] using h2
  have hne2 : (textAt toks 1 != [102, 105, 108, 101]) = true := by simpa [wordFile] using h2
  have HRX := HR6
  have GWX := GW6
  clear h2 HR6 GW6
  have hrx := HRX.out.rb.at
  obtain ⟨c0, c1, c2, c3, c4, c5'⟩ := hrx
  go_wp2_with fail
  refine (rfail_new br toks _ _ 1 0 0 _ _ HRX.out.rb).mono ?_
  rintro e w6 ⟨rfl, rfl⟩
  have hrx2 := HRX.out.set2 ((1 : Nat) : Int)
  have f1 := hrx2.rb.fz 1
  have hbl := hrx2.rb.lt
  have HRX2 := Lib.hid hrx2
  have GX2 := Lib.hid (GWX.out.trans (.left (grown_set (grown_refl X (some br)) 2 (.int .i64 ((1 : Nat) : Int)))))
  generalize hX2 : X.setCell ⟨br, 2, none⟩ (.int .i64 ((1 : Nat) : Int)) = X2 at *
  clear hX2 hrx2 c0 c1 c2 c3 c4 c5'
  obtain ⟨c0, c1, c2, c3, c4, c5'⟩ := HRX2.out.rb.at
  go_wp2_with fail
  have RM : Hid (RSt br (br + 1) toks (.slice a5 toks.length c5) df wf (X2.setCell ⟨br, 1, none⟩ (.int .i64 2)) (.bad 1 .parse)) := Lib.hid ⟨_, _, HRX2.out.set1 _⟩
  have GW := Lib.hid (GX2.out.trans (.left (grown_set (grown_refl X2 (some br)) 1 (.int .i64 2))))
  generalize X2.setCell ⟨br, 1, none⟩ (.int .i64 2) = W at *
  clear c0 c1 c2 c3 c4 c5' f1 hbl HRX2 GX2 HRX GWX
  have HFM : Hid (fileM ⟨toks, fun m => withinB m df, fun m => withinB m wf⟩ = .bad 1 .parse) := Lib.hid (by
    unfold fileM
    dsimp only
    rw [if_neg (by have := H0.out; omega), if_pos H1.out])
  refine (want_m (m := .bad 1 .parse) hl 1 (by decide) RM.out).mono ?_
  rintro e w8 ⟨⟨sq, rfl⟩, hm8, hg8⟩
  have RM8 : Hid (RSt br (br + 1) toks (.slice a5 toks.length c5) df wf w8 (.bad 1 .parse)) := Lib.hid hm8
  have GW8 := Lib.hid (GW.out.trans hg8)
  clear hm8 hg8
  go_wp2_with fail
  go_loopw [14] (fun v wr => v = .slice none 0 0 ∧ Gr2 br (br + 1) W3 wr ∧ RSt br (br + 1) toks (.slice a5 toks.length c5) df wf wr (.bad 1 .parse)) (fun _ _ => 0)
  case atStart => exact ⟨rfl, GW8.out, RM8.out⟩
  case round =>
    obtain ⟨rfl, hg9, hr9⟩ := hrel
    have GW9 := Lib.hid hg9
    have RM9 := Lib.hid hr9
    clear hg9 hr9
    go_wp2_with fail
    refine (stop_m (m := .bad 1 .parse) RM9.out).mono ?_
    rintro e w9 ⟨rfl, rfl⟩
    simp only [Mode.stopped]
    go_wp2_with fail
    refine (want_m (m := .bad 1 .parse) hl 2 (by decide) RM9.out).mono ?_
    rintro e w11 ⟨⟨sq2, rfl⟩, hm11, hg11⟩
    have RM11 : Hid (RSt br (br + 1) toks (.slice a5 toks.length c5) df wf w11 (.bad 1 .parse)) := Lib.hid hm11
    have GW11 := Lib.hid (GW9.out.trans hg11)
    clear hm11 hg11
    go_wp2_with fail
    refine (deriv_m (m := .bad 1 .parse) hl HTX.out (fun k n h => by cases h) RM11.out).mono ?_
    rintro e w12 ⟨r, i, a, l, c, rfl, hm12, hg12, _⟩
    have RM12 : Hid (RSt br (br + 1) toks (.slice a5 toks.length c5) df wf (w12.alloc (.cells #[.slice none 0 0, .int .i64 r, .int .i64 i, .slice a l c] 26)) (.bad 1 .parse)) := Lib.hid (RSt.kept (m := .bad 1 .parse) hm12 (below_alloc _ _))
    have GW12 := Lib.hid ((GW11.out.trans hg12).trans (.below (below_alloc w12 (.cells #[.slice none 0 0, .int .i64 r, .int .i64 i, .slice a l c] 26))))
    clear hm12 hg12
    unfold derivV
    go_wp2_with fail
    refine (want_m (m := .bad 1 .parse) hl 2 (by decide) RM12.out).mono ?_
    rintro e w13 ⟨⟨sq3, rfl⟩, hm13, hg13⟩
    have RZ : Hid (RSt br (br + 1) toks (.slice a5 toks.length c5) df wf w13 (.bad 1 .parse)) := Lib.hid hm13
    have GZ := Lib.hid (GW12.out.trans hg13)
    clear hm13 hg13
    obtain ⟨k, hkb⟩ : ∃ k : Nat, k = 1 := ⟨_, rfl⟩
    have HWB : Hid (wholeM (fun m => withinB m df) (fun m => withinB m wf) s.data.toList = .bad k .parse) := Lib.hid (by rw [HWH.out, HFM.out, hkb])
    have RZ2 : Hid (RSt br (br + 1) toks (.slice a5 toks.length c5) df wf w13 (.bad k .parse)) := Lib.hid (by rw [hkb]; exact RZ.out)
    clear hkb
    obtain ⟨at_, nz, hrz⟩ := RZ2.out
    have HRZ := Lib.hid hrz
    clear hrz
    go_wp2_with fail
    refine (pstop_any br (br + 1) toks _ _ nz _ df wf _ at_ HRZ.out).mono ?_
    rintro e w14 ⟨rfl, rfl⟩
    rw [show decide ((0 : Int) ≤ (k : Int)) = true by simp]
    go_wp2_with fail
    refine (pstop_any br (br + 1) toks _ _ nz _ df wf _ at_ HRZ.out).mono ?_
    rintro e w15 ⟨rfl, rfl⟩
    rw [show decide ((0 : Int) ≤ (k : Int)) = true by simp]
    obtain ⟨p0, p1, p2, p3, p4⟩ := HRZ.out.pat
    obtain ⟨c0, c1, c2, c3, c4, c5'⟩ := HRZ.out.rb.at
    have hres := (GZ.out.block w.heap.size (by omega) (by omega) (by omega)).trans HRES3.out
    have HRESZ := Lib.hid hres
    have g0 : w15.frozen? ⟨w.heap.size, 0, none⟩ = false := by simp only [World.frozen?, hres]; rfl
    have g1 : w15.frozen? ⟨w.heap.size, 1, none⟩ = false := by simp only [World.frozen?, hres]; rfl
    have g2 : w15.frozen? ⟨w.heap.size, 2, none⟩ = false := by simp only [World.frozen?, hres]; rfl
    have g3 : w15.frozen? ⟨w.heap.size, 3, none⟩ = false := by simp only [World.frozen?, hres]; rfl
    have r0 : w15.cell? ⟨w.heap.size, 0, none⟩ = some (.slice none 0 0) := by simp only [World.cell?, hres]; rfl
    have r1 : w15.cell? ⟨w.heap.size, 1, none⟩ = some (.int .i64 0) := by simp only [World.cell?, hres]; rfl
    have r2 : w15.cell? ⟨w.heap.size, 2, none⟩ = some (.int .i64 0) := by simp only [World.cell?, hres]; rfl
    have r3 : w15.cell? ⟨w.heap.size, 3, none⟩ = some (.slice none 0 0) := by simp only [World.cell?, hres]; rfl
    have hltz : w.heap.size < w15.heap.size := (Array.getElem?_eq_some_iff.1 hres).1
    clear hres
    simp only [wordOf] at p4
    go_wp2_with fail
    refine (rplace_any s _ toks _ HLX.out _ HRZ.out.rb.has k).mono ?_
    rintro e w16 ⟨rfl, rfl⟩
    go_wp2_with fail
    obtain ⟨Y, hY, hYc, hYb, _, _⟩ := four_end HRESZ.out rfl (.slice none 0 0) (.int .i64 0) (.int .i64 0) (.slice none 0 0)
    rw [hY]
    have u0 : Y.cell? ⟨w.heap.size, 0, none⟩ = some (.slice none 0 0) := by simp only [World.cell?, hYc]; rfl
    have u1 : Y.cell? ⟨w.heap.size, 1, none⟩ = some (.int .i64 0) := by simp only [World.cell?, hYc]; rfl
    have u2 : Y.cell? ⟨w.heap.size, 2, none⟩ = some (.int .i64 0) := by simp only [World.cell?, hYc]; rfl
    have u3 : Y.cell? ⟨w.heap.size, 3, none⟩ = some (.slice none 0 0) := by simp only [World.cell?, hYc]; rfl
    have HPOST : Hid (FileSays w s.data.toList df wf (.returned (.tuple #[.agg #[.slice none 0 0, .int .i64 0, .int .i64 0, .slice none 0 0], .int .i64 2, .int .i64 (placeM s.data.toList k : Nat), .string ⟨#[]⟩])) Y) := Lib.hid (by
      unfold FileSays
      rw [HWB.out]
      exact ⟨rfl, HB3.out.trans ((below_of_gr2 GZ.out (by omega) (by omega) HB3.out.size).trans hYb)⟩)
    clear hY hYc hYb
    exact bodyPost_ret (v := .tuple #[.agg #[.slice none 0 0, .int .i64 0, .int .i64 0, .slice none 0 0], .int .i64 2, .int .i64 (placeM s.data.toList k : Nat), .string ⟨#[]⟩]) (by simp [results, Tryd.results22, go_sem, u0, u1, u2, u3]) rfl HPOST.out
end Go.Proofs.YtfpiogaakblpeaaDoor

namespace Go.Proofs.YtfpiogaakblpeaaDoor
open Go.RowKit

set_option maxRecDepth 100000 in
set_option maxHeartbeats 8000000 in
theorem rfile_c (s : ByteArray) (df wf : Nat) (w : World) (hs : s.size ≤ 1099511627776) (h0 : kindAt (lexL s.data.toList).1 0 = 1) (h1 : kindAt (lexL s.data.toList).1 1 = 3) (h2 : textAt (lexL s.data.toList).1 1 = wordFile) :
    Calls Tryd.prog 22 #[.string s, .float .f64 df, .float .f64 wf] w (FileSays w s.data.toList df wf) := by
  have HS := Lib.hid hs
  obtain ⟨toks, fault, hlx⟩ : ∃ toks f, lexL s.data.toList = (toks, f) := ⟨_, _, rfl⟩
  have hl : toks.length ≤ 1099511627776 := by
    have h1 := lexL_length s.data.toList
    have h2 : s.data.toList.length = s.size := by simp
    rw [hlx] at h1
    dsimp only at h1
    omega
  have HTX : Hid (∀ j, (textAt toks j).length ≤ 1099511627776) := Lib.hid (fun j => by
    have h2 : s.data.toList.length = s.size := by simp
    by_cases hj : j < toks.length
    · rw [textAt_eq hj]
      cases fault with
      | none => have := spans_pos _ 0 toks (spans_lexL _ _ hlx) j hj; omega
      | some p =>
        have := spans_pos _ 0 toks (spans_lexL _ _ (lexL_cut hlx)) j hj
        rw [List.length_take] at this
        omega
    · rw [textAt_ge (by omega)]; simp)
  have HLX := Lib.hid hlx
  have HWH : Hid (wholeM (fun m => withinB m df) (fun m => withinB m wf) s.data.toList = match fileM ⟨toks, fun m => withinB m df, fun m => withinB m wf⟩ with
      | .bad k y => .bad k y
      | .ok x k n => if fault = none then .ok x k n else .bad k .parse) := Lib.hid (by
    unfold wholeM
    rw [hlx]
    dsimp only
    cases fileM ⟨toks, fun m => withinB m df, fun m => withinB m wf⟩ <;> rfl)
  obtain ⟨F, hF⟩ : ∃ F, derivM ⟨toks, fun m => withinB m df, fun m => withinB m wf⟩ (toks.length + 1) 1 = F := ⟨_, rfl⟩
  have HFF := Lib.hid hF
  have HMOV : Hid (∀ k n, k ≤ toks.length → Moves toks k n (F k n)) := Lib.hid (fun k n hk => by rw [← hF]; exact derivM_moves ⟨toks, fun m => withinB m df, fun m => withinB m wf⟩ (toks.length + 1) 1 k n hk)
  have HOP : Hid (∀ k n, AtOpen toks (F k n)) := Lib.hid (fun k n => by rw [← hF]; exact derivM_open ⟨toks, fun m => withinB m df, fun m => withinB m wf⟩ (toks.length + 1) 1 k n)
  have HSHUT : Hid (∀ k n, kindAt toks k ≠ 1 → F k n = .bad k .parse) := Lib.hid (fun k n h => by rw [← hF]; exact derivM_shut ⟨toks, fun m => withinB m df, fun m => withinB m wf⟩ toks.length 1 k n h)
  obtain ⟨i0, hi, hi0, hi1, hi2⟩ := info_parts Tryd.infoDeriv
  have HINF := Lib.hid (And.intro hi (And.intro hi0 (And.intro hi1 hi2)))
  rw [hlx] at h0 h1 h2
  have H0 := Lib.hid h0
  have HK1 : Hid (kindAt toks 1 = 3) := Lib.hid h1
  have H2 : Hid (textAt toks 1 = wordFile) := Lib.hid h2
  clear h0 h1 h2
  clear hs hlx hF hi hi0 hi1 hi2
  go_enter Tryd.func22, Tryd.ntmps22
  go_wp2_with fail
  refine (rlex_both s _ toks fault HLX.out HS.out).mono ?_
  rintro e w2 ⟨v, rfl, hown2, hb2⟩
  have hh2 := Has.of_owns hown2
  have hlt2 : ∀ g, v.ownBlock = some g → g < w2.heap.size := fun g hg => (hown2.lt g hg).2
  obtain ⟨a5, c5, rfl⟩ := hh2.slice
  have HR3 := Lib.hid (rdW_rp w2 (.slice a5 toks.length c5) df wf toks hh2 hlt2)
  have hsz2 : w.heap.size + 1 ≤ w2.heap.size := by have := hb2.size; simpa using this
  have hb3 := (below_alloc w (.cells #[.slice none 0 0, .int .i64 0, .int .i64 0, .slice none 0 0] 26)).trans ((hb2.trans ((rdW_below w2 (.slice a5 toks.length c5) df wf).mono hb2.size)).mono (by simp))
  have HB3 := Lib.hid hb3
  have hres3 : (rdW w2 (.slice a5 toks.length c5) df wf).heap[w.heap.size]? = some (.cells #[.slice none 0 0, .int .i64 0, .int .i64 0, .slice none 0 0] 26 (0, 0)) := by
    rw [(rdW_below w2 (.slice a5 toks.length c5) df wf).block _ (by omega), hb2.block _ (by simp)]
    exact new_heap _ _ _
  have HRES3 := Lib.hid hres3
  have hz3 := rdW_size w2 (.slice a5 toks.length c5) df wf
  have hrbt : ∀ g, (Value.slice a5 toks.length c5).ownBlock = some g → w.heap.size + 1 ≤ g := fun g hg => by have := (hown2.lt g hg).1; simpa using this
  obtain ⟨br, hbr⟩ : ∃ br, br = w2.heap.size := ⟨_, rfl⟩
  obtain ⟨W3, hW3⟩ : ∃ W3, W3 = rdW w2 (.slice a5 toks.length c5) df wf := ⟨_, rfl⟩
  clear hown2 hh2 hlt2 hb2 hb3 hres3
  go_wp2_with fail
  rw [show ((w2.alloc (.cells #[.slice a5 toks.length c5, .int .i64 0, .int .i64 (-1), .int .i64 0, .int .i64 0, .slice none 0 0] 83)).alloc (.cells #[.pointer (some ⟨w2.heap.size, 0, none⟩), .float .f64 df, .float .f64 wf, .int .i64 0, .string ⟨#[]⟩] 86)) = W3 from hW3.symm]
  rw [← hW3] at HR3 HB3 HRES3 hz3
  rw [← hbr] at HR3 hz3 hsz2
  rw [← hbr]
  clear hW3 hbr
  have hbw : w.heap.size < br := by omega
  refine (rwant_ok br toks _ _ 0 0 0 _ 1 (by decide) H0.out hl HR3.out.rb).mono ?_
  rintro e w4 ⟨rfl, hrb4, hg4, _⟩
  have hr4 := HR3.out.moved hrb4 hg4
  have GW4 := Lib.hid (Gr2.left (bp := br + 1) hg4)
  have HR4 : Hid (Rp w4 br (br + 1) toks (.slice a5 toks.length c5) ((1 : Nat) : Int) (-1) ((0 : Nat) : Int) ⟨#[]⟩ df wf) := Lib.hid (by simpa using hr4)
  clear hrb4 hg4 hr4
  go_wp2_with fail
  refine (pstop_any br (br + 1) toks _ _ _ _ df wf _ _ HR4.out).mono ?_
  rintro e w4' ⟨rfl, rfl⟩
  go_wp2_with fail
  refine (rkind_any br toks _ _ 1 _ 0 0 _ HR4.out.rb).mono ?_
  rintro e w5 ⟨rfl, m5, rfl⟩
  have HR5 := Lib.hid (HR4.out.drewN m5)
  have GW5 := Lib.hid (GW4.out.drewN m5)
  have hv1 : ((kindAt toks 1 : Int) != 3) = false := by have := HK1.out; simp; omega
  go_wp2_with fail
  refine (rword_at br toks _ _ 1 _ 0 0 _ HR5.out.rb).mono ?_
  rintro e w6 ⟨rfl, m6, rfl⟩
  have HR6 := Lib.hid (HR5.out.drewN m6)
  have GW6 := Lib.hid (GW5.out.drewN m6)
  generalize (w4'.drewN m5).drewN m6 = X at *
  clear HR5 GW5
  have hne : (textAt toks 1 == [102, 105, 108, 101]) = true := by simpa [wordFile] using H2.out
  have hne2 : (textAt toks 1 != [102, 105, 108, 101]) = false := by simpa [wordFile] using H2.out
  obtain ⟨c0, c1, c2, c3, c4, c5'⟩ := HR6.out.rb.at
  have f1 := HR6.out.rb.fz 1
  have hbl := HR6.out.rb.lt
  go_wp2_with fail
  have RM : Hid (RSt br (br + 1) toks (.slice a5 toks.length c5) df wf (X.setCell ⟨br, 1, none⟩ (.int .i64 2)) (.ok 2 0)) := Lib.hid (HR6.out.set1 _)
  have GW := Lib.hid (GW6.out.trans (.left (grown_set (grown_refl X (some br)) 1 (.int .i64 2))))
  generalize X.setCell ⟨br, 1, none⟩ (.int .i64 2) = W at *
  clear c0 c1 c2 c3 c4 c5' f1 hbl HR6 GW6
  obtain ⟨rc, hrc⟩ : ∃ rc : Res (List DT), rc = if kindAt toks 2 = 1 then ctxM F toks (toks.length + 1) 3 0 [] else .bad 2 .parse := ⟨_, rfl⟩
  have HRC : Hid (rc = ctxM F toks (toks.length + 1) 3 0 [] ∧ wantM toks 1 (.ok 2 0) = .ok 3 0 ∧ 3 ≤ toks.length ∨ ∃ k y, rc = .bad k y ∧ wantM toks 1 (.ok 2 0) = .bad k y) := Lib.hid (by
    by_cases h3 : kindAt toks 2 = 1
    · have := kindAt_lt (l := toks) (k := 2) (by omega)
      rw [if_pos h3] at hrc; exact .inl ⟨hrc, if_pos h3, by omega⟩
    · rw [if_neg h3] at hrc; exact .inr ⟨_, _, hrc, if_neg h3⟩)
  have HRCO : Hid (AtOpen toks rc) := Lib.hid (by
    rw [hrc]; split
    · exact ctxM_open HOP.out _ _ _ _
    · trivial)
  have HFM : Hid (fileM ⟨toks, fun m => withinB m df, fun m => withinB m wf⟩ = restM F toks rc) := Lib.hid (by
    unfold fileM
    dsimp only
    rw [if_neg (by have := H0.out; omega), if_neg (by rw [HK1.out, H2.out]; simp), hrc, HFF.out]
    by_cases h3 : kindAt toks 2 = 1
    · rw [if_neg (by omega), if_pos h3]
    · rw [if_pos h3, if_neg h3]; rfl)
  clear hrc
  refine (want_m (m := (.ok 2 0)) hl 1 (by decide) RM.out).mono ?_
  rintro e w8 ⟨⟨sq, rfl⟩, hm8, hg8⟩
  have X0 : Hid (XSt W3 br (br + 1) toks (.slice a5 toks.length c5) df wf F rc [] (.slice none 0 0) w8) := Lib.hid
    { gr := GW.out.trans hg8, own := World.ownsRow_nil _ _ _ _, mode := by
        rcases HRC.out with ⟨h1, h2, h3⟩ | ⟨k, y, h1, h2⟩
        · rw [h2] at hm8; exact .inl ⟨3, 0, h1, hm8, fun p hp => by simp at hp, by simp, h3, by omega⟩
        · rw [h2] at hm8; exact .inr ⟨k, y, h1, hm8⟩ }
  have HRO : Hid (AtOpen toks rc) := Lib.hid (by
    rcases HRC.out with ⟨h1, _, _⟩ | ⟨k, y, h1, h2⟩
    · rw [h1]; exact ctxM_open HOP.out _ _ _ _
    · exact HRCO.out)
  clear hm8 hg8
  go_wp2_with fail
  go_loopw [14] (fun v wr => ∃ (rows : List (DT × Value)), XSt W3 br (br + 1) toks (.slice a5 toks.length c5) df wf F rc rows v wr) (fun _ wr => measR br toks.length wr)
  case atStart => exact ⟨[], X0.out⟩
  case round =>
    obtain ⟨rows, hX⟩ := hrel
    have HX := Lib.hid hX
    clear hX
    rcases HX.out.mode with ⟨kk, nn, hrc, hr, hkids, hk0, hkl, hnk⟩ | ⟨k, y, hrc, hr⟩
    · have HRR := Lib.hid hr
      have HKIDS := Lib.hid hkids
      have HM1 := Lib.hid (measR_ok hr toks.length)
      have HRC1 := Lib.hid hrc
      clear hr hkids hrc
      go_wp2_with fail
      refine (stop_m (m := .ok kk nn) HRR.out).mono ?_
      rintro e w9 ⟨rfl, rfl⟩
      simp only [Mode.stopped]
      go_wp2_with fail
      refine (rkind_any br toks _ _ kk (-1) 0 0 _ HRR.out.rb).mono ?_
      rintro e w10 ⟨rfl, m10, rfl⟩
      by_cases hk1 : kindAt toks kk = 1
      · have hv1 : ((kindAt toks kk : Int) == 1) = true := by simp; omega
        have HCX : Hid (rc = match F kk nn with | .ok d k' n' => ctxM F toks (toks.length + 1 - (rows.length + 1)) k' n' (rows.map Prod.fst ++ [d]) | .bad k' y => .bad k' y) := Lib.hid (by
          rw [HRC1.out]
          obtain ⟨q, hq⟩ : ∃ q, toks.length + 1 - rows.length = q + 1 := ⟨toks.length - rows.length, by omega⟩
          have hq2 : toks.length + 1 - (rows.length + 1) = q := by omega
          rw [hq, hq2]
          simp only [ctxM]
          rw [if_neg (by omega)]
          cases F kk nn <;> rfl)
        have HCALL0 : Hid (Calls Tryd.prog 48 #[.pointer (some ⟨br + 1, 0, none⟩), .int .i64 1] (w9.drewN m10) (ResR (w9.drewN m10) br (br + 1) toks (.slice a5 toks.length c5) df wf (F kk nn))) := Lib.hid (by
          have := rderiv_any br (br + 1) toks (.slice a5 toks.length c5) df wf hl HTX.out (toks.length + 1) kk nn 1 (w9.drewN m10) (HRR.out.drewN m10) (by omega) hkl hnk (by omega)
          rw [HFF.out] at this
          exact this)
        clear hk1
        cases hF : F kk nn with
        | bad k' y =>
          have HRES : Hid (rc = .bad k' y) := Lib.hid (by rw [HCX.out, hF])
          have HCALL : Hid (Calls Tryd.prog 48 #[.pointer (some ⟨br + 1, 0, none⟩), .int .i64 1] (w9.drewN m10) (BadR (w9.drewN m10) br (br + 1) toks (.slice a5 toks.length c5) df wf k' y)) := Lib.hid (by
            have := HCALL0.out
            rw [hF] at this
            exact this)
          clear hF HCX HCALL0
          go_wp2_with fail
          refine HCALL.out.mono ?_
          rintro e w6 ⟨r1, i1, a1, l1, c1, at1, n1, rfl, hr6, hg6⟩
          have hg6' : Gr2 br (br + 1) w9 w6 := ((Gr2.refl _ _ _).drewN m10).trans hg6
          unfold derivV
          obtain ⟨hi, hi0, hi1, hi2⟩ := HINF.out
          go_wp2_with (at_builtin; go_must (refine wpList_append_lies _ rfl (.tmp 67) (.tmp 70) 22 rfl (br + 1 + 1) 24 i0 _ 3 40 Tryd.underlying22 hi hi0 hi1 hi2 rfl (by decide) _ rows.length (kidCells rows) rfl ?own ⟨w6.heap.size, 0, none⟩ 1 1 [.int .i64 r1, .int .i64 i1, .slice a1 l1 c1] rfl rfl ?news ?one (by decide) ?c3 ?c4 ?c5 (w6.heap.size + 1) (by simp) ?_))
          case own => exact (ownsRow_gr2 HX.out.own (by omega) (by omega) hg6').alloc _
          case news => exact World.news_of_block (cs := #[.int .i64 r1, .int .i64 i1, .slice a1 l1 c1]) (t := 24) (fr := (0, 0)) (heap_alloc_new w6 _)
          case one => simp [Value.oneCell']
          case c3 => unfold maxLen; omega
          case c4 => omega
          case c5 => have := hg6'.size; have := HX.out.gr.size; simp; omega
          intro g cap w7 hown7 hgrow7 hat7 hlt7
          clear hi hi0 hi1 hi2
          have X1 := Lib.hid (XSt.badly HR3.out (by omega) (by omega) HX.out HRES.out hr6 hg6' hgrow7 hown7)
          have HM2 := Lib.hid (measR_bad ((XSt.rp7 HR3.out (by omega) (by omega) HX.out hg6' hgrow7).2 hr6) toks.length)
          clear hr6 hg6 hg6' hown7 hgrow7 hat7 hlt7
          go_wp2
          go_roundw
          case rel => exact ⟨_, X1.out⟩
          case measure => rw [HM1.out, HM2.out]; omega
        | ok d k' n' =>
          have hmov := HMOV.out kk nn hkl
          rw [hF] at hmov
          simp only [Moves] at hmov
          have HRES : Hid (rc = ctxM F toks (toks.length + 1 - (rows.length + 1)) k' n' (rows.map Prod.fst ++ [d])) := Lib.hid (by rw [HCX.out, hF])
          have HCALL : Hid (Calls Tryd.prog 48 #[.pointer (some ⟨br + 1, 0, none⟩), .int .i64 1] (w9.drewN m10) (OkR (w9.drewN m10) br (br + 1) toks (.slice a5 toks.length c5) df wf d k' n')) := Lib.hid (by
            have := HCALL0.out
            rw [hF] at this
            exact this)
          clear hF HCX HCALL0
          go_wp2_with fail
          refine HCALL.out.mono ?_
          rintro e w6 ⟨v1, rfl, hrep1, hx1, hx2, hr6, hg6⟩
          obtain ⟨hl1, a1, c1, rfl⟩ := hrep1.form
          have hg6' : Gr2 br (br + 1) w9 w6 := ((Gr2.refl _ _ _).drewN m10).trans hg6
          unfold derivV
          obtain ⟨hi, hi0, hi1, hi2⟩ := HINF.out
          go_wp2_with (at_builtin; go_must (refine wpList_append_lies _ rfl (.tmp 67) (.tmp 70) 22 rfl (br + 1 + 1) 24 i0 _ 3 40 Tryd.underlying22 hi hi0 hi1 hi2 rfl (by decide) _ rows.length (kidCells rows) rfl ?own ⟨w6.heap.size, 0, none⟩ 1 1 [.int .i64 d.rule, .int .i64 d.idx, .slice a1 d.kids.length c1] rfl rfl ?news ?one (by decide) ?c3 ?c4 ?c5 (w6.heap.size + 1) (by simp) ?_))
          case own => exact (ownsRow_gr2 HX.out.own (by omega) (by omega) hg6').alloc _
          case news => exact World.news_of_block (cs := #[.int .i64 d.rule, .int .i64 d.idx, .slice a1 d.kids.length c1]) (t := 24) (fr := (0, 0)) (heap_alloc_new w6 _)
          case one => simp [Value.oneCell']
          case c3 => unfold maxLen; omega
          case c4 => omega
          case c5 => have := hg6'.size; have := HX.out.gr.size; simp; omega
          intro g cap w7 hown7 hgrow7 hat7 hlt7
          clear hi hi0 hi1 hi2
          have X1 := Lib.hid (XSt.good HR3.out (by omega) (by omega) HX.out HKIDS.out HRES.out (by omega) hrep1 hx1 hx2 hr6 hg6' hgrow7 (by simpa using hat7) hown7)
          have HM2 := Lib.hid (measR_ok ((XSt.rp7 HR3.out (by omega) (by omega) HX.out hg6' hgrow7).2 hr6) toks.length)
          clear hr6 hg6 hg6' hown7 hgrow7 hat7 hlt7 hrep1 hx1 hx2
          go_wp2
          go_roundw
          case rel => exact ⟨_, X1.out⟩
          case measure => rw [HM1.out, HM2.out]; omega
      · have hv1 : ((kindAt toks kk : Int) == 1) = false := by simp; omega
        have RE : Hid (RSt br (br + 1) toks (.slice a5 toks.length c5) df wf (w9.drewN m10) (.ok kk nn)) := Lib.hid (HRR.out.drewN m10)
        have GE := Lib.hid (HX.out.gr.drewN m10)
        have HRC2 : Hid (kindAt toks kk = 2 ∧ rc = .ok (rows.map Prod.fst) kk nn ∨ kindAt toks kk ≠ 2 ∧ rc = .bad kk .parse) := Lib.hid (by
          rw [HRC1.out]
          obtain ⟨q, hq⟩ : ∃ q, toks.length + 1 - rows.length = q + 1 := ⟨toks.length - rows.length, by omega⟩
          rw [hq]
          simp only [ctxM]
          by_cases h2 : kindAt toks kk = 2
          · rw [if_pos h2]; exact .inl ⟨h2, rfl⟩
          · rw [if_neg h2, HSHUT.out kk nn hk1]; exact .inr ⟨h2, rfl⟩)
        have HME : Hid (wantM toks 2 (.ok kk nn) = modeC rc) := Lib.hid (by
          rcases HRC2.out with ⟨h1, h2⟩ | ⟨h1, h2⟩
          · rw [h2]; exact if_pos h1
          · rw [h2]; exact if_neg h1)
        have HCS : Hid (∀ cs k n, rc = .ok cs k n → RepS (w9.drewN m10) (fun x => br + 1 < x) cs u14 ∧ k + 1 ≤ toks.length ∧ n ≤ k + 1) := Lib.hid (fun cs k n h => by
          rcases HRC2.out with ⟨h1, h2⟩ | ⟨h1, h2⟩
          · rw [h2] at h
            obtain ⟨rfl, rfl, rfl⟩ := Res.ok.inj h
            have := kindAt_lt (l := toks) (k := kk) (by omega)
            have hrep : RepS w9 (fun x => br + 1 < x) (rows.map Prod.fst) u14 := repS_of_owns HX.out.own (fun g hg => by have := (HX.out.own.lt g hg).1; omega) (fun p hp => ⟨(HKIDS.out p hp).1.kept (Nat.le_refl _) fun x hx _ => ⟨rfl, hx.1⟩, (HKIDS.out p hp).2⟩)
            exact ⟨hrep.kept (w := w9) (w' := w9.drewN m10) (show w9.heap.size ≤ (w9.drewN m10).heap.size from Nat.le_refl _) fun x hx _ => ⟨rfl, hx⟩, by omega, by omega⟩
          · rw [h2] at h; cases h)
        clear hk1
        obtain ⟨a9, l9, c9, hv9⟩ : ∃ a9 l9 c9, u14 = .slice a9 l9 c9 := by
          rcases HX.out.own.2 with ⟨h, _⟩ | ⟨g, cap, cur, h, _⟩
          · exact ⟨_, _, _, h⟩
          · exact ⟨_, _, _, h⟩
        subst hv9
        go_wp2_with fail
        refine (want_m (m := (.ok kk nn)) hl 2 (by decide) RE.out).mono ?_
        rintro e w11 ⟨⟨sq2, rfl⟩, hm11, hg11⟩
        rw [HME.out] at hm11
        have RE1 := Lib.hid hm11
        have GE1 := Lib.hid (GE.out.trans hg11)
        have HCS1 : Hid (∀ cs k n, rc = .ok cs k n → RepS w11 (fun x => br + 1 < x) cs (.slice a9 l9 c9)) := Lib.hid (fun cs k n h => (HCS.out cs k n h).1.kept hg11.size fun x hx hlx => ⟨hg11.block x hlx (by omega) (by omega), hx⟩)
        have HBND : Hid (∀ k n, modeC rc = .ok k n → k ≤ toks.length ∧ n ≤ k) := Lib.hid (fun k n h => by
          cases hrc' : rc with
          | ok cs k0 n0 => rw [hrc'] at h; obtain ⟨rfl, rfl⟩ := Mode.ok.inj h; exact (HCS.out cs k0 n0 hrc').2
          | bad k0 y0 => rw [hrc'] at h; cases h)
        clear hm11 hg11
        go_wp2_with fail
        refine (deriv_m (m := modeC rc) hl HTX.out HBND.out RE1.out).mono ?_
        rintro e w12 ⟨r, i, a, l, c, rfl, hm12, hg12, hd12⟩
        rw [HFF.out] at hm12
        simp only [HFF.out] at hd12
        have RE2 := Lib.hid (hm12.kept (below_alloc w12 (.cells #[.slice a9 l9 c9, .int .i64 r, .int .i64 i, .slice a l c] 26)))
        have GE2 := Lib.hid ((GE1.out.trans hg12).trans (.below (below_alloc w12 (.cells #[.slice a9 l9 c9, .int .i64 r, .int .i64 i, .slice a l c] 26))))
        have HCS2 : Hid (∀ cs k n, rc = .ok cs k n → RepS w12 (fun x => br + 1 < x) cs (.slice a9 l9 c9)) := Lib.hid (fun cs k n h => (HCS1.out cs k n h).kept hg12.size fun x hx hlx => ⟨hg12.block x hlx (by omega) (by omega), hx⟩)
        have HD12 : Hid (∀ k n d k' n', modeC rc = .ok k n → F k n = .ok d k' n' → r = d.rule ∧ i = d.idx ∧ RepS w12 (fun x => br + 1 < x) d.kids (.slice a l c) ∧ In64 d.rule ∧ In64 d.idx) := Lib.hid (fun k n d k' n' h1 h2 => by
          obtain ⟨e1, e2, e3, e4, e5⟩ := hd12 k n d k' n' h1 h2
          exact ⟨e1, e2, e3.kept (Nat.le_refl _) fun x hx _ => ⟨rfl, by have := GE1.out.size; omega⟩, e4, e5⟩)
        have hs12 : br + 1 < w12.heap.size := by have := GE1.out.size; have := hg12.size; omega
        clear hm12 hg12 hd12
        unfold derivV
        go_wp2_with fail
        refine (want_m (m := derivMM F (modeC rc)) hl 2 (by decide) RE2.out).mono ?_
        rintro e w13 ⟨⟨sq3, rfl⟩, hm13, hg13⟩
        have GZ0 := Lib.hid (GE2.out.trans hg13)
        have hbox13 : w13.heap[w12.heap.size]? = some (.cells #[.slice a9 l9 c9, .int .i64 r, .int .i64 i, .slice a l c] 26 (0, 0)) := by
          rw [hg13.block _ (by simp) (by omega) (by omega)]; exact new_heap _ _ _
        have HBOX := Lib.hid hbox13
        have HS13 : Hid (∀ ks v, RepS w12 (fun x => br + 1 < x) ks v → RepS w13 (fun x => br + 1 < x) ks v) := Lib.hid (fun ks v h => h.kept (by have := hg13.size; simp at this; omega) fun x hx hlx => ⟨by rw [hg13.block x (by simp; omega) (by omega) (by omega), Lib.alloc_old _ _ _ hlx], hx⟩)
        have RZ0 : Hid (RSt br (br + 1) toks (.slice a5 toks.length c5) df wf w13 (modeZ F toks rc)) := Lib.hid hm13
        clear hm13 hg13 hbox13
        cases hz : modeZ F toks rc with
        | bad k y =>
          have RZ : Hid (RSt br (br + 1) toks (.slice a5 toks.length c5) df wf w13 (.bad k y)) := Lib.hid (by rw [← hz]; exact RZ0.out)
          have GZ := GZ0
          have HWB : Hid (wholeM (fun m => withinB m df) (fun m => withinB m wf) s.data.toList = .bad k y) := Lib.hid (by rw [HWH.out, HFM.out, modeZ_bad hz])
          have HAO : Hid (y ≠ .parse → k < toks.length) := Lib.hid (fun hy => by
            have h1 := restM_open HOP.out HRO.out
            rw [modeZ_bad hz] at h1
            cases y with
            | parse => exact absurd rfl hy
            | deep => exact kindAt_lt (by rw [show kindAt toks k = 1 from h1]; omega)
            | nodes => exact kindAt_lt (by rw [show kindAt toks k = 1 from h1]; omega))
          clear hz
          obtain ⟨at_, nz, hrz⟩ := RZ.out
          have HRZ := Lib.hid hrz
          clear hrz
          go_wp2_with fail
          refine (pstop_any br (br + 1) toks _ _ nz _ df wf _ at_ HRZ.out).mono ?_
          rintro e w14 ⟨rfl, rfl⟩
          rw [show decide ((0 : Int) ≤ (k : Int)) = true by simp]
          go_wp2_with fail
          refine (pstop_any br (br + 1) toks _ _ nz _ df wf _ at_ HRZ.out).mono ?_
          rintro e w15 ⟨rfl, rfl⟩
          rw [show decide ((0 : Int) ≤ (k : Int)) = true by simp]
          obtain ⟨p0, p1, p2, p3, p4⟩ := HRZ.out.pat
          obtain ⟨c0, c1, c2, c3, c4, c5'⟩ := HRZ.out.rb.at
          have hres := (GZ.out.block w.heap.size (by omega) (by omega) (by omega)).trans HRES3.out
          have HRESZ := Lib.hid hres
          have g0 : w15.frozen? ⟨w.heap.size, 0, none⟩ = false := by simp only [World.frozen?, hres]; rfl
          have g1 : w15.frozen? ⟨w.heap.size, 1, none⟩ = false := by simp only [World.frozen?, hres]; rfl
          have g2 : w15.frozen? ⟨w.heap.size, 2, none⟩ = false := by simp only [World.frozen?, hres]; rfl
          have g3 : w15.frozen? ⟨w.heap.size, 3, none⟩ = false := by simp only [World.frozen?, hres]; rfl
          have r0 : w15.cell? ⟨w.heap.size, 0, none⟩ = some (.slice none 0 0) := by simp only [World.cell?, hres]; rfl
          have r1 : w15.cell? ⟨w.heap.size, 1, none⟩ = some (.int .i64 0) := by simp only [World.cell?, hres]; rfl
          have r2 : w15.cell? ⟨w.heap.size, 2, none⟩ = some (.int .i64 0) := by simp only [World.cell?, hres]; rfl
          have r3 : w15.cell? ⟨w.heap.size, 3, none⟩ = some (.slice none 0 0) := by simp only [World.cell?, hres]; rfl
          have hltz : w.heap.size < w15.heap.size := (Array.getElem?_eq_some_iff.1 hres).1
          clear hres
          by_cases hy : y = .parse
          · subst hy
            simp only [wordOf] at p4
            go_wp2_with fail
            refine (rplace_any s _ toks _ HLX.out _ HRZ.out.rb.has k).mono ?_
            rintro e w16 ⟨rfl, rfl⟩
            go_wp2_with fail
            obtain ⟨Y, hY, hYc, hYb, _, _⟩ := four_end HRESZ.out rfl (.slice none 0 0) (.int .i64 0) (.int .i64 0) (.slice none 0 0)
            rw [hY]
            have u0 : Y.cell? ⟨w.heap.size, 0, none⟩ = some (.slice none 0 0) := by simp only [World.cell?, hYc]; rfl
            have u1 : Y.cell? ⟨w.heap.size, 1, none⟩ = some (.int .i64 0) := by simp only [World.cell?, hYc]; rfl
            have u2 : Y.cell? ⟨w.heap.size, 2, none⟩ = some (.int .i64 0) := by simp only [World.cell?, hYc]; rfl
            have u3 : Y.cell? ⟨w.heap.size, 3, none⟩ = some (.slice none 0 0) := by simp only [World.cell?, hYc]; rfl
            have HPOST : Hid (FileSays w s.data.toList df wf (.returned (.tuple #[.agg #[.slice none 0 0, .int .i64 0, .int .i64 0, .slice none 0 0], .int .i64 2, .int .i64 (placeM s.data.toList k : Nat), .string ⟨#[]⟩])) Y) := Lib.hid (by
              unfold FileSays
              rw [HWB.out]
              exact ⟨rfl, HB3.out.trans ((below_of_gr2 GZ.out (by omega) (by omega) HB3.out.size).trans hYb)⟩)
            clear hY hYc hYb
            exact bodyPost_ret (v := .tuple #[.agg #[.slice none 0 0, .int .i64 0, .int .i64 0, .slice none 0 0], .int .i64 2, .int .i64 (placeM s.data.toList k : Nat), .string ⟨#[]⟩]) (by simp [results, Tryd.results22, go_sem, u0, u1, u2, u3]) rfl HPOST.out
          · have HYE : Hid (errOf y = 4) := Lib.hid (by cases y <;> first | rfl | exact absurd rfl hy)
            have hyw : (wordOf y != ⟨#[]⟩) = true := by cases y <;> first | decide | exact absurd rfl hy
            have hyw2 : (wordOf y).toList.isEmpty = false := by cases y <;> first | exact absurd rfl hy | decide +kernel
            have hkl2 := HAO.out hy
            obtain ⟨wd, hwd⟩ : ∃ wd, wordOf y = wd := ⟨_, rfl⟩
            have HWD := Lib.hid hwd
            rw [hwd] at p4 hyw hyw2
            clear hwd hy
            rcases HRZ.out.rb.has.2 with ⟨hv0, h0'⟩ | ⟨bt, o, c', hv0, hn, hb, hcells⟩
            · omega
            obtain ⟨rfl, _, rfl⟩ := Value.slice.inj hv0
            have hat := toksCells_at toks k hkl2
            have t2 : w15.cell? ⟨bt, o + k * 3 + 2, none⟩ = _ := (hcells (k * 3 + 2) (by omega)).trans hat.2.2
            have HPV : Hid (placeM s.data.toList k = toks[k].pos) := Lib.hid (by unfold placeM; rw [HLX.out]; dsimp only; rw [List.getElem?_eq_getElem hkl2])
            have hbtw : bt ≠ w.heap.size := by
              intro he
              have h1 := hrbt bt rfl
              omega
            clear hcells hat hv0
            generalize toks[k].pos = pp at t2 HPV
            go_wp2_with fail
            obtain ⟨base, hb0, hb2⟩ : ∃ base : Side → World, base .ahead = w15 ∧ base .behind = ((((w15.setCell ⟨w.heap.size, 0, none⟩ (.slice none 0 0)).setCell ⟨w.heap.size, 1, none⟩ (.int .i64 0)).setCell ⟨w.heap.size, 2, none⟩ (.int .i64 0)).setCell ⟨w.heap.size, 3, none⟩ (.slice none 0 0)) := ⟨fun b => match b with | .ahead => _ | .behind => _, rfl, rfl⟩
            have HBASE := Lib.hid (And.intro hb0 hb2)
            have qL : ∀ b, (base b).cell? ⟨bt, o + k * 3 + 2, none⟩ = some (.int .i64 pp) := fun b => by
              cases b
              · rw [hb0]; exact t2
              · rw [hb2]
                obtain ⟨Y, hY, _, _, hYx, _⟩ := four_end HRESZ.out rfl (.slice none 0 0) (.int .i64 0) (.int .i64 0) (.slice none 0 0)
                rw [hY]
                have : Y.heap[bt]? = w15.heap[bt]? := hYx bt hbtw
                simp only [World.cell?, this] at t2 ⊢
                exact t2
            have qb : ∀ b, ∀ j, (base b).cell? ⟨br, j, none⟩ = w15.cell? ⟨br, j, none⟩ := fun b j => by
              cases b
              · rw [hb0]
              · rw [hb2]
                obtain ⟨Y, hY, _, _, hYx, _⟩ := four_end HRESZ.out rfl (.slice none 0 0) (.int .i64 0) (.int .i64 0) (.slice none 0 0)
                rw [hY]
                have : Y.heap[br]? = w15.heap[br]? := hYx br (by omega)
                simp only [World.cell?, this]
            have qp : ∀ b, ∀ j, (base b).cell? ⟨br + 1, j, none⟩ = w15.cell? ⟨br + 1, j, none⟩ := fun b j => by
              cases b
              · rw [hb0]
              · rw [hb2]
                obtain ⟨Y, hY, _, _, hYx, _⟩ := four_end HRESZ.out rfl (.slice none 0 0) (.int .i64 0) (.int .i64 0) (.slice none 0 0)
                rw [hY]
                have : Y.heap[br + 1]? = w15.heap[br + 1]? := hYx (br + 1) (by omega)
                simp only [World.cell?, this]
            have q2 : ∀ b, (base b).cell? ⟨br, 2, none⟩ = some (.int .i64 k) := fun b => by rw [qb]; exact c2
            have q4 : ∀ b, (base b).cell? ⟨br + 1, 4, none⟩ = some (.string wd) := fun b => by rw [qp]; exact p4
            clear qb qp t2
            refine wp_region_one_lit 13 base (by kernel_rfl) (by kernel_rfl) (by kernel_rfl) HBASE.out.1.symm ?_
            clear hb0 hb2
            iterate 13 (refine yLex_still rfl rfl (fun K hK => ?_); go_simp; refine hK _ ?_; clear hK K)
            refine yLex_write rfl rfl rfl (fun m => ?_) ?_
            · rw [HBASE.out.1, HBASE.out.2]
              go_simp
              rfl
            iterate 3 (refine yLex_still rfl rfl (fun K hK => ?_); go_simp; refine hK _ ?_; clear hK K)
            refine yLex_end (fun m => ?_)
            rw [HBASE.out.2]
            obtain ⟨Y, hY, hYc, hYb, _, _⟩ := four_end HRESZ.out rfl (.slice none 0 0) (.int .i64 0) (.int .i64 0) (.slice none 0 0)
            rw [hY]
            have u0 : (Y.drewN m).cell? ⟨w.heap.size, 0, none⟩ = some (.slice none 0 0) := by show Y.cell? _ = _; simp only [World.cell?, hYc]; rfl
            have u1 : (Y.drewN m).cell? ⟨w.heap.size, 1, none⟩ = some (.int .i64 0) := by show Y.cell? _ = _; simp only [World.cell?, hYc]; rfl
            have u2 : (Y.drewN m).cell? ⟨w.heap.size, 2, none⟩ = some (.int .i64 0) := by show Y.cell? _ = _; simp only [World.cell?, hYc]; rfl
            have u3 : (Y.drewN m).cell? ⟨w.heap.size, 3, none⟩ = some (.slice none 0 0) := by show Y.cell? _ = _; simp only [World.cell?, hYc]; rfl
            have HPOST : Hid (FileSays w s.data.toList df wf (.returned (.tuple #[.agg #[.slice none 0 0, .int .i64 0, .int .i64 0, .slice none 0 0], .int .i64 4, .int .i64 (pp : Nat), .string wd])) (Y.drewN m)) := Lib.hid (by
              unfold FileSays
              rw [HWB.out]
              refine ⟨?_, below_drewN (HB3.out.trans ((below_of_gr2 GZ.out (by omega) (by omega) HB3.out.size).trans hYb)) m⟩
              rw [HYE.out, HPV.out, HWD.out]; rfl)
            generalize Y.drewN m = Z at *
            clear hY hYc hYb
            go_wp2
            exact bodyPost_ret (v := .tuple #[.agg #[.slice none 0 0, .int .i64 0, .int .i64 0, .slice none 0 0], .int .i64 4, .int .i64 (pp : Nat), .string wd]) (by simp [results, Tryd.results22, go_sem, u0, u1, u2, u3]) rfl HPOST.out
        | ok k n =>
          obtain ⟨cs, k0, n0, d, k', hrc2, hF2, hkk, hk2', hrest⟩ := modeZ_ok hz
          have HRZ0 : Hid (Rp w13 br (br + 1) toks (.slice a5 toks.length c5) k (-1) n ⟨#[]⟩ df wf) := Lib.hid (by
            have := RZ0.out
            rw [hz] at this
            exact this)
          have hk2'' := kindAt_lt (l := toks) (k := k') (by omega)
          have HREST := Lib.hid hrest
          have HKK := Lib.hid hkk
          have HALL := Lib.hid (And.intro hrc2 hF2)
          clear hz hrc2 hF2 hk2' hrest hkk
          go_wp2_with fail
          refine (pstop_any br (br + 1) toks _ (-1) _ _ df wf _ _ HRZ0.out).mono ?_
          rintro e w14 ⟨rfl, rfl⟩
          rw [show decide ((0 : Int) ≤ (-1 : Int)) = false from rfl]
          obtain ⟨c0, c1, c2, c3, c4, c5'⟩ := HRZ0.out.rb.at
          have f2 := HRZ0.out.rb.fz 2
          have hbl := HRZ0.out.rb.lt
          by_cases hlt : k < toks.length
          · have HWB : Hid (wholeM (fun m => withinB m df) (fun m => withinB m wf) s.data.toList = .bad k .parse) := Lib.hid (by rw [HWH.out, HFM.out, HREST.out, if_pos hlt])
            go_wp2_with fail
            have HRZ : Hid (Rp (w14.setCell ⟨br, 2, none⟩ (.int .i64 k)) br (br + 1) toks (.slice a5 toks.length c5) k k n ⟨#[]⟩ df wf) := Lib.hid (HRZ0.out.set2 k)
            have GZ := Lib.hid (GZ0.out.trans (.left (grown_set (grown_refl w14 (some br)) 2 (.int .i64 k))))
            obtain ⟨nz, hnz⟩ : ∃ nz : Int, nz = n := ⟨_, rfl⟩
            obtain ⟨at_, hat_⟩ : ∃ at_ : Int, at_ = k := ⟨_, rfl⟩
            rw [← hnz] at HRZ
            rw [show Rp (w14.setCell ⟨br, 2, none⟩ (.int .i64 k)) br (br + 1) toks (.slice a5 toks.length c5) k k nz ⟨#[]⟩ df wf = Rp (w14.setCell ⟨br, 2, none⟩ (.int .i64 k)) br (br + 1) toks (.slice a5 toks.length c5) at_ k nz ⟨#[]⟩ df wf by rw [hat_]] at HRZ
            clear hnz hat_ c0 c1 c2 c3 c4 c5' f2 hbl
            generalize w14.setCell ⟨br, 2, none⟩ (.int .i64 k) = W14 at *
            go_wp2_with fail
            refine (pstop_any br (br + 1) toks _ _ nz _ df wf _ at_ HRZ.out).mono ?_
            rintro e w15 ⟨rfl, rfl⟩
            rw [show decide ((0 : Int) ≤ (k : Int)) = true by simp]
            obtain ⟨p0, p1, p2, p3, p4⟩ := HRZ.out.pat
            obtain ⟨c0, c1, c2, c3, c4, c5'⟩ := HRZ.out.rb.at
            have hres := (GZ.out.block w.heap.size (by omega) (by omega) (by omega)).trans HRES3.out
            have HRESZ := Lib.hid hres
            have g0 : w15.frozen? ⟨w.heap.size, 0, none⟩ = false := by simp only [World.frozen?, hres]; rfl
            have g1 : w15.frozen? ⟨w.heap.size, 1, none⟩ = false := by simp only [World.frozen?, hres]; rfl
            have g2 : w15.frozen? ⟨w.heap.size, 2, none⟩ = false := by simp only [World.frozen?, hres]; rfl
            have g3 : w15.frozen? ⟨w.heap.size, 3, none⟩ = false := by simp only [World.frozen?, hres]; rfl
            have r0 : w15.cell? ⟨w.heap.size, 0, none⟩ = some (.slice none 0 0) := by simp only [World.cell?, hres]; rfl
            have r1 : w15.cell? ⟨w.heap.size, 1, none⟩ = some (.int .i64 0) := by simp only [World.cell?, hres]; rfl
            have r2 : w15.cell? ⟨w.heap.size, 2, none⟩ = some (.int .i64 0) := by simp only [World.cell?, hres]; rfl
            have r3 : w15.cell? ⟨w.heap.size, 3, none⟩ = some (.slice none 0 0) := by simp only [World.cell?, hres]; rfl
            have hltz : w.heap.size < w15.heap.size := (Array.getElem?_eq_some_iff.1 hres).1
            clear hres
            go_wp2_with fail
            refine (rplace_any s _ toks _ HLX.out _ HRZ.out.rb.has k).mono ?_
            rintro e w16 ⟨rfl, rfl⟩
            go_wp2_with fail
            obtain ⟨Y, hY, hYc, hYb, _, _⟩ := four_end HRESZ.out rfl (.slice none 0 0) (.int .i64 0) (.int .i64 0) (.slice none 0 0)
            rw [hY]
            have u0 : Y.cell? ⟨w.heap.size, 0, none⟩ = some (.slice none 0 0) := by simp only [World.cell?, hYc]; rfl
            have u1 : Y.cell? ⟨w.heap.size, 1, none⟩ = some (.int .i64 0) := by simp only [World.cell?, hYc]; rfl
            have u2 : Y.cell? ⟨w.heap.size, 2, none⟩ = some (.int .i64 0) := by simp only [World.cell?, hYc]; rfl
            have u3 : Y.cell? ⟨w.heap.size, 3, none⟩ = some (.slice none 0 0) := by simp only [World.cell?, hYc]; rfl
            have HPOST : Hid (FileSays w s.data.toList df wf (.returned (.tuple #[.agg #[.slice none 0 0, .int .i64 0, .int .i64 0, .slice none 0 0], .int .i64 2, .int .i64 (placeM s.data.toList k : Nat), .string ⟨#[]⟩])) Y) := Lib.hid (by
              unfold FileSays
              rw [HWB.out]
              exact ⟨rfl, HB3.out.trans ((below_of_gr2 GZ.out (by omega) (by omega) HB3.out.size).trans hYb)⟩)
            clear hY hYc hYb
            exact bodyPost_ret (v := .tuple #[.agg #[.slice none 0 0, .int .i64 0, .int .i64 0, .slice none 0 0], .int .i64 2, .int .i64 (placeM s.data.toList k : Nat), .string ⟨#[]⟩]) (by simp [results, Tryd.results22, go_sem, u0, u1, u2, u3]) rfl HPOST.out
          · cases fault with
            | some p =>
              have HWB : Hid (wholeM (fun m => withinB m df) (fun m => withinB m wf) s.data.toList = .bad k .parse) := Lib.hid (by rw [HWH.out, HFM.out, HREST.out, if_neg hlt]; rfl)
              have hfi : faultI (some p) = (p : Int) := rfl
              go_wp2_with fail
              have HRZ : Hid (Rp (w14.setCell ⟨br, 2, none⟩ (.int .i64 k)) br (br + 1) toks (.slice a5 toks.length c5) k k n ⟨#[]⟩ df wf) := Lib.hid (HRZ0.out.set2 k)
              have GZ := Lib.hid (GZ0.out.trans (.left (grown_set (grown_refl w14 (some br)) 2 (.int .i64 k))))
              obtain ⟨nz, hnz⟩ : ∃ nz : Int, nz = n := ⟨_, rfl⟩
              obtain ⟨at_, hat_⟩ : ∃ at_ : Int, at_ = k := ⟨_, rfl⟩
              rw [← hnz] at HRZ
              rw [show Rp (w14.setCell ⟨br, 2, none⟩ (.int .i64 k)) br (br + 1) toks (.slice a5 toks.length c5) k k nz ⟨#[]⟩ df wf = Rp (w14.setCell ⟨br, 2, none⟩ (.int .i64 k)) br (br + 1) toks (.slice a5 toks.length c5) at_ k nz ⟨#[]⟩ df wf by rw [hat_]] at HRZ
              clear hnz hat_ c0 c1 c2 c3 c4 c5' f2 hbl
              generalize w14.setCell ⟨br, 2, none⟩ (.int .i64 k) = W14 at *
              go_wp2_with fail
              refine (pstop_any br (br + 1) toks _ _ nz _ df wf _ at_ HRZ.out).mono ?_
              rintro e w15 ⟨rfl, rfl⟩
              rw [show decide ((0 : Int) ≤ (k : Int)) = true by simp]
              obtain ⟨p0, p1, p2, p3, p4⟩ := HRZ.out.pat
              obtain ⟨c0, c1, c2, c3, c4, c5'⟩ := HRZ.out.rb.at
              have hres := (GZ.out.block w.heap.size (by omega) (by omega) (by omega)).trans HRES3.out
              have HRESZ := Lib.hid hres
              have g0 : w15.frozen? ⟨w.heap.size, 0, none⟩ = false := by simp only [World.frozen?, hres]; rfl
              have g1 : w15.frozen? ⟨w.heap.size, 1, none⟩ = false := by simp only [World.frozen?, hres]; rfl
              have g2 : w15.frozen? ⟨w.heap.size, 2, none⟩ = false := by simp only [World.frozen?, hres]; rfl
              have g3 : w15.frozen? ⟨w.heap.size, 3, none⟩ = false := by simp only [World.frozen?, hres]; rfl
              have r0 : w15.cell? ⟨w.heap.size, 0, none⟩ = some (.slice none 0 0) := by simp only [World.cell?, hres]; rfl
              have r1 : w15.cell? ⟨w.heap.size, 1, none⟩ = some (.int .i64 0) := by simp only [World.cell?, hres]; rfl
              have r2 : w15.cell? ⟨w.heap.size, 2, none⟩ = some (.int .i64 0) := by simp only [World.cell?, hres]; rfl
              have r3 : w15.cell? ⟨w.heap.size, 3, none⟩ = some (.slice none 0 0) := by simp only [World.cell?, hres]; rfl
              have hltz : w.heap.size < w15.heap.size := (Array.getElem?_eq_some_iff.1 hres).1
              clear hres
              go_wp2_with fail
              refine (rplace_any s _ toks _ HLX.out _ HRZ.out.rb.has k).mono ?_
              rintro e w16 ⟨rfl, rfl⟩
              go_wp2_with fail
              obtain ⟨Y, hY, hYc, hYb, _, _⟩ := four_end HRESZ.out rfl (.slice none 0 0) (.int .i64 0) (.int .i64 0) (.slice none 0 0)
              rw [hY]
              have u0 : Y.cell? ⟨w.heap.size, 0, none⟩ = some (.slice none 0 0) := by simp only [World.cell?, hYc]; rfl
              have u1 : Y.cell? ⟨w.heap.size, 1, none⟩ = some (.int .i64 0) := by simp only [World.cell?, hYc]; rfl
              have u2 : Y.cell? ⟨w.heap.size, 2, none⟩ = some (.int .i64 0) := by simp only [World.cell?, hYc]; rfl
              have u3 : Y.cell? ⟨w.heap.size, 3, none⟩ = some (.slice none 0 0) := by simp only [World.cell?, hYc]; rfl
              have HPOST : Hid (FileSays w s.data.toList df wf (.returned (.tuple #[.agg #[.slice none 0 0, .int .i64 0, .int .i64 0, .slice none 0 0], .int .i64 2, .int .i64 (placeM s.data.toList k : Nat), .string ⟨#[]⟩])) Y) := Lib.hid (by
                unfold FileSays
                rw [HWB.out]
                exact ⟨rfl, HB3.out.trans ((below_of_gr2 GZ.out (by omega) (by omega) HB3.out.size).trans hYb)⟩)
              clear hY hYc hYb
              exact bodyPost_ret (v := .tuple #[.agg #[.slice none 0 0, .int .i64 0, .int .i64 0, .slice none 0 0], .int .i64 2, .int .i64 (placeM s.data.toList k : Nat), .string ⟨#[]⟩]) (by simp [results, Tryd.results22, go_sem, u0, u1, u2, u3]) rfl HPOST.out
            | none =>
              have HWB : Hid (wholeM (fun m => withinB m df) (fun m => withinB m wf) s.data.toList = .ok (cs, d) k n) := Lib.hid (by rw [HWH.out, HFM.out, HREST.out, if_neg hlt]; rfl)
              have hfi : faultI none = (-1 : Int) := rfl
              go_wp2_with fail
              refine (pstop_any br (br + 1) toks _ (-1) _ _ df wf _ _ HRZ0.out).mono ?_
              rintro e w15 ⟨rfl, rfl⟩
              rw [show decide ((0 : Int) ≤ (-1 : Int)) = false from rfl]
              have hbox := HBOX.out
              have d0 : w15.cell? ⟨w12.heap.size, 0, none⟩ = some (.slice a9 l9 c9) := by simp only [World.cell?, hbox]; rfl
              have d1 : w15.cell? ⟨w12.heap.size, 1, none⟩ = some (.int .i64 r) := by simp only [World.cell?, hbox]; rfl
              have d2 : w15.cell? ⟨w12.heap.size, 2, none⟩ = some (.int .i64 i) := by simp only [World.cell?, hbox]; rfl
              have d3 : w15.cell? ⟨w12.heap.size, 3, none⟩ = some (.slice a l c) := by simp only [World.cell?, hbox]; rfl
              have hres := (GZ0.out.block w.heap.size (by omega) (by omega) (by omega)).trans HRES3.out
              have HRESZ := Lib.hid hres
              have g0 : w15.frozen? ⟨w.heap.size, 0, none⟩ = false := by simp only [World.frozen?, hres]; rfl
              have g1 : w15.frozen? ⟨w.heap.size, 1, none⟩ = false := by simp only [World.frozen?, hres]; rfl
              have g2 : w15.frozen? ⟨w.heap.size, 2, none⟩ = false := by simp only [World.frozen?, hres]; rfl
              have g3 : w15.frozen? ⟨w.heap.size, 3, none⟩ = false := by simp only [World.frozen?, hres]; rfl
              have r0 : w15.cell? ⟨w.heap.size, 0, none⟩ = some (.slice none 0 0) := by simp only [World.cell?, hres]; rfl
              have r1 : w15.cell? ⟨w.heap.size, 1, none⟩ = some (.int .i64 0) := by simp only [World.cell?, hres]; rfl
              have r2 : w15.cell? ⟨w.heap.size, 2, none⟩ = some (.int .i64 0) := by simp only [World.cell?, hres]; rfl
              have r3 : w15.cell? ⟨w.heap.size, 3, none⟩ = some (.slice none 0 0) := by simp only [World.cell?, hres]; rfl
              have hltz : w.heap.size < w15.heap.size := (Array.getElem?_eq_some_iff.1 hres).1
              clear hres hbox c0 c1 c2 c3 c4 c5' f2 hbl
              go_wp2_with fail
              obtain ⟨Y, hY, hYc, hYb, hYx, hYs⟩ := four_end HRESZ.out rfl (.slice a9 l9 c9) (.int .i64 r) (.int .i64 i) (.slice a l c)
              rw [hY]
              have u0 : Y.cell? ⟨w.heap.size, 0, none⟩ = some (.slice a9 l9 c9) := by simp only [World.cell?, hYc]; rfl
              have u1 : Y.cell? ⟨w.heap.size, 1, none⟩ = some (.int .i64 r) := by simp only [World.cell?, hYc]; rfl
              have u2 : Y.cell? ⟨w.heap.size, 2, none⟩ = some (.int .i64 i) := by simp only [World.cell?, hYc]; rfl
              have u3 : Y.cell? ⟨w.heap.size, 3, none⟩ = some (.slice a l c) := by simp only [World.cell?, hYc]; rfl
              have HPOST : Hid (FileSays w s.data.toList df wf (.returned (.tuple #[.agg #[.slice a9 l9 c9, .int .i64 r, .int .i64 i, .slice a l c], .int .i64 0, .int .i64 0, .string ⟨#[]⟩])) Y) := Lib.hid (by
                obtain ⟨e1, e2, e3, e4, e5⟩ := HD12.out (k0 + 1) n0 d k' n (by rw [HALL.out.1]; rfl) HALL.out.2
                have hY2 : ∀ ks v, RepS w15 (fun x => br + 1 < x) ks v → RepS Y (fun x => br + 1 < x) ks v := fun ks v h => h.kept (by omega) fun x hx _ => ⟨hYx x (by omega), hx⟩
                unfold FileSays
                rw [HWB.out]
                refine ⟨.slice a9 l9 c9, .slice a l c, ?_, (hY2 _ _ (HS13.out _ _ (HCS2.out cs k0 n0 HALL.out.1))).rep, (hY2 _ _ (HS13.out _ _ e3)).rep, e4, e5, HB3.out.trans ((below_of_gr2 GZ0.out (by omega) (by omega) HB3.out.size).trans hYb)⟩
                rw [e1, e2]; rfl)
              clear hY hYc hYb hYx hYs
              exact bodyPost_ret (v := .tuple #[.agg #[.slice a9 l9 c9, .int .i64 r, .int .i64 i, .slice a l c], .int .i64 0, .int .i64 0, .string ⟨#[]⟩]) (by simp [results, Tryd.results22, go_sem, u0, u1, u2, u3]) rfl HPOST.out
    · have HRR := Lib.hid hr
      have HRC1 := Lib.hid hrc
      clear hr hrc
      go_wp2_with fail
      refine (stop_m (m := .bad k y) HRR.out).mono ?_
      rintro e w9 ⟨rfl, rfl⟩
      simp only [Mode.stopped]
      have RE : Hid (RSt br (br + 1) toks (.slice a5 toks.length c5) df wf w9 (.bad k y)) := Lib.hid HRR.out
      have GE := Lib.hid HX.out.gr
      have HME : Hid (wantM toks 2 (.bad k y) = modeC rc) := Lib.hid (by rw [HRC1.out]; rfl)
      have HCS : Hid (∀ cs k n, rc = .ok cs k n → RepS w9 (fun x => br + 1 < x) cs u14 ∧ k + 1 ≤ toks.length ∧ n ≤ k + 1) := Lib.hid (fun cs k2 n h => by rw [HRC1.out] at h; cases h)
      obtain ⟨a9, l9, c9, hv9⟩ : ∃ a9 l9 c9, u14 = .slice a9 l9 c9 := by
        rcases HX.out.own.2 with ⟨h, _⟩ | ⟨g, cap, cur, h, _⟩
        · exact ⟨_, _, _, h⟩
        · exact ⟨_, _, _, h⟩
      subst hv9
      go_wp2_with fail
      refine (want_m (m := (.bad k y)) hl 2 (by decide) RE.out).mono ?_
      rintro e w11 ⟨⟨sq2, rfl⟩, hm11, hg11⟩
      rw [HME.out] at hm11
      have RE1 := Lib.hid hm11
      have GE1 := Lib.hid (GE.out.trans hg11)
      have HCS1 : Hid (∀ cs k n, rc = .ok cs k n → RepS w11 (fun x => br + 1 < x) cs (.slice a9 l9 c9)) := Lib.hid (fun cs k n h => (HCS.out cs k n h).1.kept hg11.size fun x hx hlx => ⟨hg11.block x hlx (by omega) (by omega), hx⟩)
      have HBND : Hid (∀ k n, modeC rc = .ok k n → k ≤ toks.length ∧ n ≤ k) := Lib.hid (fun k n h => by
        cases hrc' : rc with
        | ok cs k0 n0 => rw [hrc'] at h; obtain ⟨rfl, rfl⟩ := Mode.ok.inj h; exact (HCS.out cs k0 n0 hrc').2
        | bad k0 y0 => rw [hrc'] at h; cases h)
      clear hm11 hg11
      go_wp2_with fail
      refine (deriv_m (m := modeC rc) hl HTX.out HBND.out RE1.out).mono ?_
      rintro e w12 ⟨r, i, a, l, c, rfl, hm12, hg12, hd12⟩
      rw [HFF.out] at hm12
      simp only [HFF.out] at hd12
      have RE2 := Lib.hid (hm12.kept (below_alloc w12 (.cells #[.slice a9 l9 c9, .int .i64 r, .int .i64 i, .slice a l c] 26)))
      have GE2 := Lib.hid ((GE1.out.trans hg12).trans (.below (below_alloc w12 (.cells #[.slice a9 l9 c9, .int .i64 r, .int .i64 i, .slice a l c] 26))))
      have HCS2 : Hid (∀ cs k n, rc = .ok cs k n → RepS w12 (fun x => br + 1 < x) cs (.slice a9 l9 c9)) := Lib.hid (fun cs k n h => (HCS1.out cs k n h).kept hg12.size fun x hx hlx => ⟨hg12.block x hlx (by omega) (by omega), hx⟩)
      have HD12 : Hid (∀ k n d k' n', modeC rc = .ok k n → F k n = .ok d k' n' → r = d.rule ∧ i = d.idx ∧ RepS w12 (fun x => br + 1 < x) d.kids (.slice a l c) ∧ In64 d.rule ∧ In64 d.idx) := Lib.hid (fun k n d k' n' h1 h2 => by
        obtain ⟨e1, e2, e3, e4, e5⟩ := hd12 k n d k' n' h1 h2
        exact ⟨e1, e2, e3.kept (Nat.le_refl _) fun x hx _ => ⟨rfl, by have := GE1.out.size; omega⟩, e4, e5⟩)
      have hs12 : br + 1 < w12.heap.size := by have := GE1.out.size; have := hg12.size; omega
      clear hm12 hg12 hd12
      unfold derivV
      go_wp2_with fail
      refine (want_m (m := derivMM F (modeC rc)) hl 2 (by decide) RE2.out).mono ?_
      rintro e w13 ⟨⟨sq3, rfl⟩, hm13, hg13⟩
      have GZ0 := Lib.hid (GE2.out.trans hg13)
      have hbox13 : w13.heap[w12.heap.size]? = some (.cells #[.slice a9 l9 c9, .int .i64 r, .int .i64 i, .slice a l c] 26 (0, 0)) := by
        rw [hg13.block _ (by simp) (by omega) (by omega)]; exact new_heap _ _ _
      have HBOX := Lib.hid hbox13
      have HS13 : Hid (∀ ks v, RepS w12 (fun x => br + 1 < x) ks v → RepS w13 (fun x => br + 1 < x) ks v) := Lib.hid (fun ks v h => h.kept (by have := hg13.size; simp at this; omega) fun x hx hlx => ⟨by rw [hg13.block x (by simp; omega) (by omega) (by omega), Lib.alloc_old _ _ _ hlx], hx⟩)
      have RZ0 : Hid (RSt br (br + 1) toks (.slice a5 toks.length c5) df wf w13 (modeZ F toks rc)) := Lib.hid hm13
      clear hm13 hg13 hbox13
      have hz : modeZ F toks rc = .bad k y := by rw [HRC1.out]; rfl
      have RZ : Hid (RSt br (br + 1) toks (.slice a5 toks.length c5) df wf w13 (.bad k y)) := Lib.hid (by rw [← hz]; exact RZ0.out)
      have GZ := GZ0
      have HWB : Hid (wholeM (fun m => withinB m df) (fun m => withinB m wf) s.data.toList = .bad k y) := Lib.hid (by rw [HWH.out, HFM.out, modeZ_bad hz])
      have HAO : Hid (y ≠ .parse → k < toks.length) := Lib.hid (fun hy => by
        have h1 := restM_open HOP.out HRO.out
        rw [modeZ_bad hz] at h1
        cases y with
        | parse => exact absurd rfl hy
        | deep => exact kindAt_lt (by rw [show kindAt toks k = 1 from h1]; omega)
        | nodes => exact kindAt_lt (by rw [show kindAt toks k = 1 from h1]; omega))
      clear hz
      obtain ⟨at_, nz, hrz⟩ := RZ.out
      have HRZ := Lib.hid hrz
      clear hrz
      go_wp2_with fail
      refine (pstop_any br (br + 1) toks _ _ nz _ df wf _ at_ HRZ.out).mono ?_
      rintro e w14 ⟨rfl, rfl⟩
      rw [show decide ((0 : Int) ≤ (k : Int)) = true by simp]
      go_wp2_with fail
      refine (pstop_any br (br + 1) toks _ _ nz _ df wf _ at_ HRZ.out).mono ?_
      rintro e w15 ⟨rfl, rfl⟩
      rw [show decide ((0 : Int) ≤ (k : Int)) = true by simp]
      obtain ⟨p0, p1, p2, p3, p4⟩ := HRZ.out.pat
      obtain ⟨c0, c1, c2, c3, c4, c5'⟩ := HRZ.out.rb.at
      have hres := (GZ.out.block w.heap.size (by omega) (by omega) (by omega)).trans HRES3.out
      have HRESZ := Lib.hid hres
      have g0 : w15.frozen? ⟨w.heap.size, 0, none⟩ = false := by simp only [World.frozen?, hres]; rfl
      have g1 : w15.frozen? ⟨w.heap.size, 1, none⟩ = false := by simp only [World.frozen?, hres]; rfl
      have g2 : w15.frozen? ⟨w.heap.size, 2, none⟩ = false := by simp only [World.frozen?, hres]; rfl
      have g3 : w15.frozen? ⟨w.heap.size, 3, none⟩ = false := by simp only [World.frozen?, hres]; rfl
      have r0 : w15.cell? ⟨w.heap.size, 0, none⟩ = some (.slice none 0 0) := by simp only [World.cell?, hres]; rfl
      have r1 : w15.cell? ⟨w.heap.size, 1, none⟩ = some (.int .i64 0) := by simp only [World.cell?, hres]; rfl
      have r2 : w15.cell? ⟨w.heap.size, 2, none⟩ = some (.int .i64 0) := by simp only [World.cell?, hres]; rfl
      have r3 : w15.cell? ⟨w.heap.size, 3, none⟩ = some (.slice none 0 0) := by simp only [World.cell?, hres]; rfl
      have hltz : w.heap.size < w15.heap.size := (Array.getElem?_eq_some_iff.1 hres).1
      clear hres
      by_cases hy : y = .parse
      · subst hy
        simp only [wordOf] at p4
        go_wp2_with fail
        refine (rplace_any s _ toks _ HLX.out _ HRZ.out.rb.has k).mono ?_
        rintro e w16 ⟨rfl, rfl⟩
        go_wp2_with fail
        obtain ⟨Y, hY, hYc, hYb, _, _⟩ := four_end HRESZ.out rfl (.slice none 0 0) (.int .i64 0) (.int .i64 0) (.slice none 0 0)
        rw [hY]
        have u0 : Y.cell? ⟨w.heap.size, 0, none⟩ = some (.slice none 0 0) := by simp only [World.cell?, hYc]; rfl
        have u1 : Y.cell? ⟨w.heap.size, 1, none⟩ = some (.int .i64 0) := by simp only [World.cell?, hYc]; rfl
        have u2 : Y.cell? ⟨w.heap.size, 2, none⟩ = some (.int .i64 0) := by simp only [World.cell?, hYc]; rfl
        have u3 : Y.cell? ⟨w.heap.size, 3, none⟩ = some (.slice none 0 0) := by simp only [World.cell?, hYc]; rfl
        have HPOST : Hid (FileSays w s.data.toList df wf (.returned (.tuple #[.agg #[.slice none 0 0, .int .i64 0, .int .i64 0, .slice none 0 0], .int .i64 2, .int .i64 (placeM s.data.toList k : Nat), .string ⟨#[]⟩])) Y) := Lib.hid (by
          unfold FileSays
          rw [HWB.out]
          exact ⟨rfl, HB3.out.trans ((below_of_gr2 GZ.out (by omega) (by omega) HB3.out.size).trans hYb)⟩)
        clear hY hYc hYb
        exact bodyPost_ret (v := .tuple #[.agg #[.slice none 0 0, .int .i64 0, .int .i64 0, .slice none 0 0], .int .i64 2, .int .i64 (placeM s.data.toList k : Nat), .string ⟨#[]⟩]) (by simp [results, Tryd.results22, go_sem, u0, u1, u2, u3]) rfl HPOST.out
      · have HYE : Hid (errOf y = 4) := Lib.hid (by cases y <;> first | rfl | exact absurd rfl hy)
        have hyw : (wordOf y != ⟨#[]⟩) = true := by cases y <;> first | decide | exact absurd rfl hy
        have hyw2 : (wordOf y).toList.isEmpty = false := by cases y <;> first | exact absurd rfl hy | decide +kernel
        have hkl2 := HAO.out hy
        obtain ⟨wd, hwd⟩ : ∃ wd, wordOf y = wd := ⟨_, rfl⟩
        have HWD := Lib.hid hwd
        rw [hwd] at p4 hyw hyw2
        clear hwd hy
        rcases HRZ.out.rb.has.2 with ⟨hv0, h0'⟩ | ⟨bt, o, c', hv0, hn, hb, hcells⟩
        · omega
        obtain ⟨rfl, _, rfl⟩ := Value.slice.inj hv0
        have hat := toksCells_at toks k hkl2
        have t2 : w15.cell? ⟨bt, o + k * 3 + 2, none⟩ = _ := (hcells (k * 3 + 2) (by omega)).trans hat.2.2
        have HPV : Hid (placeM s.data.toList k = toks[k].pos) := Lib.hid (by unfold placeM; rw [HLX.out]; dsimp only; rw [List.getElem?_eq_getElem hkl2])
        have hbtw : bt ≠ w.heap.size := by
          intro he
          have h1 := hrbt bt rfl
          omega
        clear hcells hat hv0
        generalize toks[k].pos = pp at t2 HPV
        go_wp2_with fail
        obtain ⟨base, hb0, hb2⟩ : ∃ base : Side → World, base .ahead = w15 ∧ base .behind = ((((w15.setCell ⟨w.heap.size, 0, none⟩ (.slice none 0 0)).setCell ⟨w.heap.size, 1, none⟩ (.int .i64 0)).setCell ⟨w.heap.size, 2, none⟩ (.int .i64 0)).setCell ⟨w.heap.size, 3, none⟩ (.slice none 0 0)) := ⟨fun b => match b with | .ahead => _ | .behind => _, rfl, rfl⟩
        have HBASE := Lib.hid (And.intro hb0 hb2)
        have qL : ∀ b, (base b).cell? ⟨bt, o + k * 3 + 2, none⟩ = some (.int .i64 pp) := fun b => by
          cases b
          · rw [hb0]; exact t2
          · rw [hb2]
            obtain ⟨Y, hY, _, _, hYx, _⟩ := four_end HRESZ.out rfl (.slice none 0 0) (.int .i64 0) (.int .i64 0) (.slice none 0 0)
            rw [hY]
            have : Y.heap[bt]? = w15.heap[bt]? := hYx bt hbtw
            simp only [World.cell?, this] at t2 ⊢
            exact t2
        have qb : ∀ b, ∀ j, (base b).cell? ⟨br, j, none⟩ = w15.cell? ⟨br, j, none⟩ := fun b j => by
          cases b
          · rw [hb0]
          · rw [hb2]
            obtain ⟨Y, hY, _, _, hYx, _⟩ := four_end HRESZ.out rfl (.slice none 0 0) (.int .i64 0) (.int .i64 0) (.slice none 0 0)
            rw [hY]
            have : Y.heap[br]? = w15.heap[br]? := hYx br (by omega)
            simp only [World.cell?, this]
        have qp : ∀ b, ∀ j, (base b).cell? ⟨br + 1, j, none⟩ = w15.cell? ⟨br + 1, j, none⟩ := fun b j => by
          cases b
          · rw [hb0]
          · rw [hb2]
            obtain ⟨Y, hY, _, _, hYx, _⟩ := four_end HRESZ.out rfl (.slice none 0 0) (.int .i64 0) (.int .i64 0) (.slice none 0 0)
            rw [hY]
            have : Y.heap[br + 1]? = w15.heap[br + 1]? := hYx (br + 1) (by omega)
            simp only [World.cell?, this]
        have q2 : ∀ b, (base b).cell? ⟨br, 2, none⟩ = some (.int .i64 k) := fun b => by rw [qb]; exact c2
        have q4 : ∀ b, (base b).cell? ⟨br + 1, 4, none⟩ = some (.string wd) := fun b => by rw [qp]; exact p4
        clear qb qp t2
        refine wp_region_one_lit 13 base (by kernel_rfl) (by kernel_rfl) (by kernel_rfl) HBASE.out.1.symm ?_
        clear hb0 hb2
        iterate 13 (refine yLex_still rfl rfl (fun K hK => ?_); go_simp; refine hK _ ?_; clear hK K)
        refine yLex_write rfl rfl rfl (fun m => ?_) ?_
        · rw [HBASE.out.1, HBASE.out.2]
          go_simp
          rfl
        iterate 3 (refine yLex_still rfl rfl (fun K hK => ?_); go_simp; refine hK _ ?_; clear hK K)
        refine yLex_end (fun m => ?_)
        rw [HBASE.out.2]
        obtain ⟨Y, hY, hYc, hYb, _, _⟩ := four_end HRESZ.out rfl (.slice none 0 0) (.int .i64 0) (.int .i64 0) (.slice none 0 0)
        rw [hY]
        have u0 : (Y.drewN m).cell? ⟨w.heap.size, 0, none⟩ = some (.slice none 0 0) := by show Y.cell? _ = _; simp only [World.cell?, hYc]; rfl
        have u1 : (Y.drewN m).cell? ⟨w.heap.size, 1, none⟩ = some (.int .i64 0) := by show Y.cell? _ = _; simp only [World.cell?, hYc]; rfl
        have u2 : (Y.drewN m).cell? ⟨w.heap.size, 2, none⟩ = some (.int .i64 0) := by show Y.cell? _ = _; simp only [World.cell?, hYc]; rfl
        have u3 : (Y.drewN m).cell? ⟨w.heap.size, 3, none⟩ = some (.slice none 0 0) := by show Y.cell? _ = _; simp only [World.cell?, hYc]; rfl
        have HPOST : Hid (FileSays w s.data.toList df wf (.returned (.tuple #[.agg #[.slice none 0 0, .int .i64 0, .int .i64 0, .slice none 0 0], .int .i64 4, .int .i64 (pp : Nat), .string wd])) (Y.drewN m)) := Lib.hid (by
          unfold FileSays
          rw [HWB.out]
          refine ⟨?_, below_drewN (HB3.out.trans ((below_of_gr2 GZ.out (by omega) (by omega) HB3.out.size).trans hYb)) m⟩
          rw [HYE.out, HPV.out, HWD.out]; rfl)
        generalize Y.drewN m = Z at *
        clear hY hYc hYb
        go_wp2
        exact bodyPost_ret (v := .tuple #[.agg #[.slice none 0 0, .int .i64 0, .int .i64 0, .slice none 0 0], .int .i64 4, .int .i64 (pp : Nat), .string wd]) (by simp [results, Tryd.results22, go_sem, u0, u1, u2, u3]) rfl HPOST.out
end Go.Proofs.YtfpiogaakblpeaaDoor
