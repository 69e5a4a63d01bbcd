/- A region of the program, whether its order is drawn or not. -/
import Derived.Test.YtgedmmmgkfehjaaGreatDoorZi6
import Derived.Test.YtgedmmmgkfehjaaGreatDoorZj
namespace Go.Proofs.YtgedmmmgkfehjaaGreatDoor

section
variable {β : Type} {E : Env} {call : CallF β} {m : Nat} {ops : Array Oper} {A : List Nat}

theorem storeStep {o : Oper} {ty : TypeId} {x y : Operand} {t : Tm} {h h' : Hf} {n : Nat} {ds : Ds} {l c : Nat} {b b' : AO} (ho : o.op = .store ty x y) (h1 : ev t x = .ptr l c) (h2 : E.size ty = some (ev t y).cells.length) (h3 : ∀ v ∈ (ev t y).cells, v.one = true) (h4 : h l = some b) (h5 : ∀ m, h' m = if m = l then some b' else h m) (h6 : b.after b' c (ev t y).cells) :
    OpStep E o t h n ds .undef h' n ds := by
  intro ρ a w hsig hrel hx hd K Q hK
  have hx1 := hx x (by simp [ho, Op.operands])
  have hx2 := hx y (by simp [ho, Op.operands])
  rw [h1] at hx1
  generalize hu : a.eval x = u at hx1
  cases hx1
  rename_i bl hbl
  have hc := vr_cells hx2 (known_of_one h3)
  obtain ⟨w', g1, g2⟩ := store_post (P := E.P) hrel hbl h4 h5 h6 h3 (us := (a.eval y).cells.toList) (by simpa using hc)
  have := run_storeVar (E := E) rfl (ad := ⟨bl, c, none⟩) h2 hc.1.symm g1
  have e : (execOp a.eval o).run E.P w = .ok .skip w' := by simp [execOp, ho, hu, Instr.storeAt, Instr.sureAddr, this]
  unfold Oper.wp
  rw [e]
  exact hK undef w' ρ a.defers g2 .undef hd

theorem pairF_ok {o p : Oper} {t : Tm} {h : Hp} {k : Hp → R β} {r : β} (hr : pairF E o p t h k = some r) (n : Nat) (ds : Ds) :
    ∃ (h' : Hp) (h1 h2 : Hf), k h' = some r ∧ OpStep E o t h.get n ds .undef h1 n ds ∧ OpStep E p t h1 n ds .undef h'.get n ds ∧ OpStep E p t h.get n ds .undef h2 n ds ∧ OpStep E o t h2 n ds .undef h'.get n ds := by
  unfold pairF at hr
  split at hr
  · rename_i ty a x ty' a' x' ho hp
    obtain ⟨l, c, a1, a2, hr⟩ := storeK_some hr
    obtain ⟨l', c', b1, b2, hr⟩ := storeK_some hr
    rw [gd_some] at hr
    obtain ⟨hne, hr⟩ := hr
    have hll : l ≠ l' := by
      intro e
      subst e
      simp at hne
    obtain ⟨h1, b, b', hr, g1, g2, g3, g4⟩ := store_some hr
    obtain ⟨h', q, q', hr, f1, f2, f3, f4⟩ := store_some hr
    have f2' : h.get l' = some q := by rw [g3, if_neg (Ne.symm hll)] at f2; exact f2
    refine ⟨h', h1.get, fun m => if m = l' then some q' else h.get m, hr, storeStep ho a1 a2 g1 g2 g3 g4, storeStep hp b1 b2 f1 f2 f3 f4, storeStep hp b1 b2 f1 f2' (fun m => rfl) f4, storeStep (b := b) (b' := b') ho a1 a2 g1 ?_ ?_ g4⟩
    · rw [if_neg hll]; exact g2
    · intro m
      rw [f3, g3]
      by_cases e : m = l
      · subst e; rw [if_neg hll, if_pos rfl, if_pos rfl]
      · rw [if_neg e, if_neg e]
  · cases hr

theorem wanted_true {o : Oper} {t : Tm} (hg : o.guard = none) : WantedIs ops o t true := fun ρ a _ => by simp [Region.wanted, hg]

theorem planF_tra (hcall : CallSound E call) : ∀ (l : List PI) (D : Nat) (last : Option Nat) (t : Tm) (h : Hp) (n : Nat) (ds : Ds) (k : Tm → Hp → Nat → Ds → R β) (r : β), chk E ops A l D last = true → planF E call m ops l t h n ds k = some r →
    ∃ t' h' n' ds', k t' h' n' ds' = some r ∧ Tra E m ops l t h.get n ds t' h'.get n' ds'
  | [], D, last, t, h, n, ds, k, r, _, hr => ⟨t, h, n, ds, hr, .nil _ _ _ _⟩
  | .ev i o :: l, D, last, t, h, n, ds, k, r, hc, hr => by
    simp only [chk, Bool.and_eq_true] at hc
    have hr' : (evF E m ops o t h n fun t h n => planF E call m ops l t h n ds k) = some r := hr
    obtain ⟨t1, h1, n1, hr', hev⟩ := evF_ok hr'
    obtain ⟨t', h', n', ds', g1, g2⟩ := planF_tra hcall l _ _ t1 h1 n1 ds k r hc.2 hr'
    exact ⟨t', h', n', ds', g1, .ev i o l _ _ _ _ _ _ _ _ _ _ _ hev g2⟩
  | .wr i o re :: l, D, last, t, h, n, ds, k, r, hc, hr => by
    simp only [chk, Bool.and_eq_true] at hc
    obtain ⟨⟨⟨⟨⟨⟨hW, _⟩, _⟩, _⟩, _⟩, _⟩, hc'⟩ := hc
    have hr' : (wantedK ops o.guard t fun b => ifB b (operF E call m o.dst o.op t h n ds fun t h n ds => reF E ops re t h (planF E call m ops l t h n ds k)) (put m t o.dst .undef fun t => reF E ops re t h (planF E call m ops l t h n ds k))) = some r := hr
    obtain ⟨b, hr', hw⟩ := wantedK_ok hr'
    cases b with
    | true =>
      obtain ⟨t1, h1, n1, ds1, v, hr', hp, hstep⟩ := operV_ok hcall hW (show operF E call m o.dst o.op t h n ds _ = some r from hr')
      obtain ⟨hr2, hre⟩ := reF_ok re hr'
      obtain ⟨t', h', n', ds', g1, g2⟩ := planF_tra hcall l _ _ t1 h1 n1 ds1 k r hc' hr2
      exact ⟨t', h', n', ds', g1, .wr i o re l _ _ _ _ _ _ _ _ _ _ _ _ true v hw (by simpa using hstep) hp (fun x hx => ⟨h1, rfl, hre x hx⟩) g2⟩
    | false =>
      obtain ⟨t1, hr', hp⟩ := put_S (show put m t o.dst .undef (fun t => reF E ops re t h (planF E call m ops l t h n ds k)) = some r from hr')
      obtain ⟨hr2, hre⟩ := reF_ok re hr'
      obtain ⟨t', h', n', ds', g1, g2⟩ := planF_tra hcall l _ _ t1 h n ds k r hc' hr2
      exact ⟨t', h', n', ds', g1, .wr i o re l _ _ _ _ _ _ _ _ _ _ _ _ false .undef hw (by simp) hp (fun x hx => ⟨h, rfl, hre x hx⟩) g2⟩
  | .pair i j o p :: l, D, last, t, h, n, ds, k, r, hc, hr => by
    simp only [chk, Bool.and_eq_true] at hc
    obtain ⟨⟨⟨⟨⟨⟨⟨⟨⟨⟨⟨⟨⟨⟨⟨⟨h1, h2⟩, h3⟩, h4⟩, h5⟩, h6⟩, h7⟩, h8⟩, h9⟩, h10⟩, h11⟩, h12⟩, h13⟩, h14⟩, h15⟩, h16⟩, h17⟩ := hc
    have hl : l = [] := by simpa using h1
    subst hl
    have hr' : (pairF E o p t h fun h => k t h n ds) = some r := hr
    obtain ⟨h', f1, f2, hr', s1, s2, s3, s4⟩ := pairF_ok hr' n ds
    have g11 : o.guard = none := by simpa using h11
    have g12 : p.guard = none := by simpa using h12
    have g13 : o.dst = none := by simpa using h13
    have g14 : p.dst = none := by simpa using h14
    have po : PutS m t o.dst .undef t := by rw [g13]; rfl
    have pp : PutS m t p.dst .undef t := by rw [g14]; rfl
    refine ⟨t, h', n, ds, hr', .pair i j o p _ _ _ _ _ _ _ _ ?_ ?_⟩
    · exact .wr i o [] _ _ _ _ _ _ _ _ _ _ _ _ _ true .undef (wanted_true g11) (by simpa using s1) po (fun x hx => by cases hx) (.wr j p [] _ _ _ _ _ _ _ _ _ _ _ _ _ true .undef (wanted_true g12) (by simpa using s2) pp (fun x hx => by cases hx) (.nil _ _ _ _))
    · exact .wr j p [] _ _ _ _ _ _ _ _ _ _ _ _ _ true .undef (wanted_true g12) (by simpa using s3) pp (fun x hx => by cases hx) (.wr i o [] _ _ _ _ _ _ _ _ _ _ _ _ _ true .undef (wanted_true g11) (by simpa using s4) po (fun x hx => by cases hx) (.nil _ _ _ _))

theorem planC_chk {l : List PI} (h : planC E ops = some l) : chk E ops (ancs ops.toList) l 0 none = true := by
  unfold planC at h
  simp only [gd_some, Option.some.injEq] at h
  obtain ⟨h1, h2, h3, rfl⟩ := h
  exact h3

theorem toCome_none (s : Nat) : toCome (Array.replicate s false) = s := by simp [toCome]
theorem lst_none (s : Nat) : Lst (Array.replicate s false) = fun _ => False := by
  funext x
  apply propext
  simp only [Lst, iff_false]
  by_cases h : x < s <;> simp [h]

/-- a region does what the reckoner says of it -/
theorem reg_sound (hm : E.P.follows .mixedOrders = true) (hcall : CallSound E call) : RegSound β E call := by
  intro m ops d t h n ds k r hr
  unfold regF at hr
  cases d with
  | false =>
    have hr' : seqF E call m ops ops.toList t h n ds k = some r := hr
    obtain ⟨t', h', n', ds', g1, g2⟩ := seqF_ok (ops := ops) hcall ops.toList 0 t h n ds k (by simp) hr'
    refine ⟨t', h', n', ds', g1, fun ρ a w hsig hrel hf id Q hQ => wp_region ?_⟩
    have := g2 ρ a w hsig hrel hf Q hQ
    rw [List.range_eq_range']
    simpa using this
  | true =>
    have hr' : (ob (planC E ops) fun l => planF E call m ops l t h n ds k) = some r := hr
    simp only [ob_some] at hr'
    obtain ⟨l, hl, hr'⟩ := hr'
    obtain ⟨hs, hv⟩ := planC_ok hl
    obtain ⟨t', h', n', ds', g1, g2⟩ := planF_tra hcall l 0 none t h n ds k r (planC_chk hl) hr'
    refine ⟨t', h', n', ds', g1, fun ρ a w hsig hrel hf id Q hQ => wp_region_any hm ?_⟩
    have hmid : Mid E m ops (ancs ops.toList) t n (fun _ => False) (fun _ => False) (fun _ => none) t h.get n :=
      ⟨fun i o _ hD => hD.elim, fun d _ => rfl, fun i j l ob ob' h => (by cases h), fun i l ob h => (by cases h), fun i o _ hD => hD.elim, Nat.le_refl _⟩
    obtain ⟨l2, D2, lab2, t2, h2, n2, f1, f2, f3, f4, f5⟩ := evs_all (ρ0 := ρ) (h0 := h.get) (w0 := w) hs l _ _ _ _ _ _ g2 hv hmid
    have hrel' : Rel ρ h.get n { w with drawn := w.drawn + 1 } := ⟨hrel.floor, hrel.dom, hrel.obj, hrel.inj⟩
    have hpost : Post ρ h.get n w ρ h.get n { w with drawn := w.drawn + 1 } := ⟨.refl ρ, hrel', Nat.le_refl _, fun _ _ hl => ⟨hl, rfl⟩, fun _ _ hl => hl, fun _ _ hl => .inl hl, fun _ _ _ => rfl, Nat.le_refl _, rfl, rfl, rfl⟩
    have hw : WInv ops m t ρ h.get n w (fun _ => False) (fun _ => False) (fun _ => False) (fun _ => none) t h.get n ds ρ a { w with drawn := w.drawn + 1 } :=
      ⟨hpost, hf.defers, hf.size, fun i h => h, fun i o _ h => h.elim, fun i h => h, fun i o d _ h => h.elim, fun d _ v hv => hf.tmps d v hv, fun i l ob h => (by cases h)⟩
    have hw2 := f5 _ _ _ _ hw
    refine any_order hs hsig hrel (hF := h'.get) (nF := n') (tF := t') (dsF := ds') (fun a' w' ρ' p q => hQ a' w' ⟨ρ', p, q⟩) ops.size _ l2 D2 _ lab2 t2 h2 n2 ds ρ a _ (by simp) (toCome_none _) ?_ f2 f3 f1 f4 ?_
    · rw [lst_none]; exact fun i o _ h => h.elim
    · rw [lst_none]; exact hw2
end
end Go.Proofs.YtgedmmmgkfehjaaGreatDoor
