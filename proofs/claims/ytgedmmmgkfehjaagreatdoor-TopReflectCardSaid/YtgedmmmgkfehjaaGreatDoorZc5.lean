/- Operators. -/
import Derived.Test.YtgedmmmgkfehjaaGreatDoorZc4
import Derived.Laws.Strings
namespace Go.Proofs.YtgedmmmgkfehjaaGreatDoor

section
variable {β : Type} {E : Env} {t : Tm} {h : Hp} {k : AV → R β} {r : β}

theorem bytes_list (s : ByteArray) : s.toList = s.data.toList := ByteArray.toList_eq s
theorem str_bytes {ρ : Den} {tr : Tr Nat} {o n : Nat} {l : List Nat} {s : ByteArray} (hb : bytesOf tr o n = some l) (hv : VR ρ (.str tr o n) (.string s)) : l = s.data.toList.map UInt8.toNat := by
  obtain ⟨h1, h2⟩ := bytesOf_spec n tr o l hb
  cases hv
  rename_i hget hn
  apply List.ext_getElem?
  intro i
  rw [List.getElem?_map]
  by_cases hi : i < n
  · rw [← h2 i hi]
    have hi' : i < s.data.toList.length := by omega
    rw [List.getElem?_eq_getElem hi', hget i _ (List.getElem?_eq_getElem hi')]
    rfl
  · rw [List.getElem?_eq_none (by omega), List.getElem?_eq_none (by omega)]
    rfl
theorem str_len {ρ : Den} {tr : Tr Nat} {o n : Nat} {s : ByteArray} (hv : VR ρ (.str tr o n) (.string s)) : s.data.toList.length = n := by
  cases hv; assumption
theorem nats_eq (a b : List UInt8) : (a.map UInt8.toNat = b.map UInt8.toNat) ↔ a = b := by
  constructor
  · intro h
    exact (List.map_inj_right (fun x y hxy => UInt8.toNat_inj.1 hxy)).1 h
  · rintro rfl; rfl
theorem str_eq {ρ : Den} {tr tr' : Tr Nat} {o n o' n' : Nat} {l l' : List Nat} {s s' : ByteArray} (hb : bytesOf tr o n = some l) (hv : VR ρ (.str tr o n) (.string s)) (hb' : bytesOf tr' o' n' = some l') (hv' : VR ρ (.str tr' o' n') (.string s')) :
    eqNats l l' = (s.toList == s'.toList) := by
  rw [str_bytes hb hv, str_bytes hb' hv', bytes_list, bytes_list]
  rw [Bool.eq_iff_iff, eqNats_iff, nats_eq, beq_iff_eq]
theorem str_ne {ρ : Den} {tr tr' : Tr Nat} {o n o' n' : Nat} {s s' : ByteArray} (hv : VR ρ (.str tr o n) (.string s)) (hv' : VR ρ (.str tr' o' n') (.string s')) (hn : n ≠ n') :
    (s.toList == s'.toList) = false := by
  rw [bytes_list, bytes_list, beq_eq_false_iff_ne]
  intro he
  have h1 := str_len hv
  have h2 := str_len hv'
  rw [he] at h1
  omega
/-- a string out of its bytes -/
theorem str_vr {ρ : Den} {tr : Tr Nat} (l : List Nat) (s : ByteArray) (hl : l = s.data.toList.map UInt8.toNat) (ht : ∀ i, tr.get i = l[i]?) : VR ρ (.str tr 0 l.length) (.string s) := by
  refine .str tr 0 _ s (by rw [hl]; simp) fun i x hx => ?_
  rw [Nat.zero_add, ht, hl, List.getElem?_map, hx]
  rfl

theorem strOp_run {op : BinOp} {ty : TypeId} {ρ : Den} {tr tr' : Tr Nat} {o n o' n' : Nat} {v : AV} {s s' : ByteArray} (hs : strOp op tr o n tr' o' n' = some v) (hv : VR ρ (.str tr o n) (.string s)) (hv' : VR ρ (.str tr' o' n') (.string s')) (w : World) :
    ∃ u, (binOp op ty (.string s) (.string s')).run E.P w = .ok u w ∧ VR ρ v u := by
  cases op <;> simp only [strOp, reduceCtorEq] at hs
  · -- +
    simp only [gd_some, ob_some] at hs
    obtain ⟨hle, l, hl, l', hl', hs⟩ := hs
    obtain ⟨tr2, rfl, htr⟩ := strOf_spec hs
    refine ⟨.string (s ++ s'), ?_, ?_⟩
    · have h1 := str_len hv
      have h2 := str_len hv'
      have h3 := Nat.le_of_ble_eq_true hle
      have h3' : n + n' ≤ 1000000 := h3
      have h4 : ¬ ((s.size + s'.size : Nat) : Int) > IntKind.i64.max := by
        have e1 : s.size = n := by rw [← h1, Array.length_toList]; rfl
        have e2 : s'.size = n' := by rw [← h2, Array.length_toList]; rfl
        rw [e1, e2]
        have : IntKind.i64.max = 9223372036854775807 := by decide
        rw [this]
        omega
      simp only [binOp, Op.stringOp]
      rw [if_neg h4]
      rfl
    · refine str_vr _ _ ?_ htr
      rw [str_bytes hl hv, str_bytes hl' hv', ByteArray.data_append, Array.toList_append, List.map_append]
  · -- ==
    rw [ifB_eq] at hs
    split at hs
    · simp only [ob_some] at hs
      obtain ⟨l, hl, l', hl', hs⟩ := hs
      cases hs
      rw [str_eq hl hv hl' hv']
      exact ⟨_, rfl, .bool _⟩
    · rename_i hne
      cases hs
      have hne' : n ≠ n' := by rw [Nat.beq_eq] at hne; exact hne
      refine ⟨.bool (s.toList == s'.toList), rfl, ?_⟩
      rw [str_ne hv hv' hne']
      exact .bool _
  · -- !=
    rw [ifB_eq] at hs
    split at hs
    · simp only [ob_some] at hs
      obtain ⟨l, hl, l', hl', hs⟩ := hs
      cases hs
      rw [str_eq hl hv hl' hv']
      exact ⟨_, rfl, .bool _⟩
    · rename_i hne
      cases hs
      have hne' : n ≠ n' := by rw [Nat.beq_eq] at hne; exact hne
      refine ⟨.bool (!(s.toList == s'.toList)), rfl, ?_⟩
      rw [str_ne hv hv' hne']
      exact .bool _

theorem intR_some {q : IntKind} {n : Int} {v : AV} (hs : intR q n = some v) : v = .int q n ∧ q.wrap n = n := by
  unfold intR at hs
  simp only [gd_some, decide_eq_true_eq, Option.some.injEq] at hs
  exact ⟨hs.2.symm, hs.1⟩
theorem intOp_run {op : BinOp} {ty : TypeId} {ρ : Den} {q : IntKind} {a b : Int} {v : AV} (hs : intOp op q a b = some v) (w : World) :
    ∃ u, (binOp op ty (.int q a) (.int q b)).run E.P w = .ok u w ∧ VR ρ v u := by
  cases op <;> simp only [intOp, reduceCtorEq] at hs
  · obtain ⟨rfl, hw⟩ := intR_some hs
    exact ⟨_, by simp [binOp, Op.intArith, hw], .int _ _⟩
  · obtain ⟨rfl, hw⟩ := intR_some hs
    exact ⟨_, by simp [binOp, Op.intArith, hw], .int _ _⟩
  · obtain ⟨rfl, hw⟩ := intR_some hs
    exact ⟨_, by simp [binOp, Op.intArith, hw], .int _ _⟩
  all_goals (cases hs; exact ⟨_, by simp [binOp, Op.intCmp], .bool _⟩)

theorem wrap_small (n : Int) (h1 : -2000000 < n) (h2 : n < 2000000) : IntKind.i64.wrap n = n := by
  unfold IntKind.wrap
  have e1 : (2 : Int) ^ IntKind.i64.bits = 18446744073709551616 := by decide
  have e2 : (2 : Int) ^ (IntKind.i64.bits - 1) = 9223372036854775808 := by decide
  have e3 : IntKind.i64.signed = true := rfl
  simp only [e1, e2, e3, Bool.true_and, ge_iff_le, decide_eq_true_eq]
  split <;> omega

theorem VR.boolEq {ρ : Den} {b b' : Bool} (h : b = b') : VR ρ (.bool b) (.bool b') := h ▸ .bool b
theorem symOp_run {op : BinOp} {ty : TypeId} {ρ : Den} {c n : Int} {v : AV} (hs : symOp E op c n = some v) (hsig : SigOK E ρ) (w : World) :
    ∃ u, (binOp op ty (.int .i64 (ρ.sig + c)) (.int .i64 n)).run E.P w = .ok u w ∧ VR ρ v u := by
  obtain ⟨h3, h1, h2, h4⟩ := hsig
  cases op <;> simp only [symOp, reduceCtorEq, ifB_eq] at hs
  · simp only [gd_some, decide_eq_true_eq, Option.some.injEq] at hs
    obtain ⟨h5, h6, rfl⟩ := hs
    refine ⟨.int .i64 (ρ.sig + (c + n)), ?_, .sym _⟩
    have := wrap_small (ρ.sig + c + n) (by omega) (by omega)
    have e : ρ.sig + (c + n) = ρ.sig + c + n := by omega
    simp only [binOp, Op.intArith, e]
    simp [this]
  · simp only [gd_some, decide_eq_true_eq, Option.some.injEq] at hs
    obtain ⟨h5, h6, rfl⟩ := hs
    refine ⟨.int .i64 (ρ.sig + (c - n)), ?_, .sym _⟩
    have := wrap_small (ρ.sig + c - n) (by omega) (by omega)
    have e : ρ.sig + (c - n) = ρ.sig + c - n := by omega
    simp only [binOp, Op.intArith, e]
    simp [this]
  · refine ⟨.bool (ρ.sig + c == n), by simp [binOp, Op.intCmp], ?_⟩
    split at hs
    · cases hs; apply VR.boolEq; simp at *; omega
    · split at hs
      · cases hs; apply VR.boolEq; simp at *; omega
      · simp only [gd_some, decide_eq_true_eq, Option.some.injEq] at hs
        obtain ⟨h5, rfl⟩ := hs; apply VR.boolEq; simp at *; omega
  · refine ⟨.bool (ρ.sig + c != n), by simp [binOp, Op.intCmp], ?_⟩
    split at hs
    · cases hs; apply VR.boolEq; simp at *; omega
    · split at hs
      · cases hs; apply VR.boolEq; simp at *; omega
      · simp only [gd_some, decide_eq_true_eq, Option.some.injEq] at hs
        obtain ⟨h5, rfl⟩ := hs; apply VR.boolEq; simp at *; omega
  · refine ⟨.bool (decide (ρ.sig + c < n)), by simp [binOp, Op.intCmp], ?_⟩
    split at hs
    · cases hs; apply VR.boolEq; simp at *; omega
    · simp only [gd_some, decide_eq_true_eq, Option.some.injEq] at hs
      obtain ⟨h5, rfl⟩ := hs; apply VR.boolEq; simp at *; omega
  · refine ⟨.bool (decide (ρ.sig + c ≤ n)), by simp [binOp, Op.intCmp], ?_⟩
    split at hs
    · cases hs; apply VR.boolEq; simp at *; omega
    · simp only [gd_some, decide_eq_true_eq, Option.some.injEq] at hs
      obtain ⟨h5, rfl⟩ := hs; apply VR.boolEq; simp at *; omega
  · refine ⟨.bool (decide (ρ.sig + c > n)), by simp [binOp, Op.intCmp], ?_⟩
    split at hs
    · cases hs; apply VR.boolEq; simp at *; omega
    · simp only [gd_some, decide_eq_true_eq, Option.some.injEq] at hs
      obtain ⟨h5, rfl⟩ := hs; apply VR.boolEq; simp at *; omega
  · refine ⟨.bool (decide (ρ.sig + c ≥ n)), by simp [binOp, Op.intCmp], ?_⟩
    split at hs
    · cases hs; apply VR.boolEq; simp at *; omega
    · simp only [gd_some, decide_eq_true_eq, Option.some.injEq] at hs
      obtain ⟨h5, rfl⟩ := hs; apply VR.boolEq; simp at *; omega

theorem symSym_run {op : BinOp} {ty : TypeId} {ρ : Den} {c d : Int} {v : AV} (hs : symSym op c d = some v) (w : World) :
    ∃ u, (binOp op ty (.int .i64 (ρ.sig + c)) (.int .i64 (ρ.sig + d))).run E.P w = .ok u w ∧ VR ρ v u := by
  cases op <;> simp only [symSym, reduceCtorEq] at hs
  · cases hs
    refine ⟨.bool (ρ.sig + c == ρ.sig + d), by simp [binOp, Op.intCmp], VR.boolEq ?_⟩
    rw [Bool.eq_iff_iff]; simp
  · cases hs
    refine ⟨.bool (ρ.sig + c != ρ.sig + d), by simp [binOp, Op.intCmp], VR.boolEq ?_⟩
    rw [Bool.eq_iff_iff]; simp
theorem floatOp_run {op : BinOp} {ty : TypeId} {ρ : Den} {q : FloatKind} {a b : Nat} {v : AV} (hs : floatOp op q a b = some v) (w : World) :
    ∃ u, (binOp op ty (.float q a) (.float q b)).run E.P w = .ok u w ∧ VR ρ v u := by
  cases op <;> simp only [floatOp, reduceCtorEq] at hs
  all_goals (cases hs; exact ⟨_, by simp [binOp, Op.floatCmp], .bool _⟩)

theorem isEql_run {op : BinOp} {ty : TypeId} {ρ : Den} {b : Bool} {v : AV} {x y : Value} (hs : isEql op b = some v) (w : World) (hq : (Op.equal ty x y).run E.P w = .ok b w)
    (hx : ∀ o : BinOp, o = .eql ∨ o = .neq → binOp o ty x y = if o = .eql then (do pure (.bool (← Op.equal ty x y))) else (do pure (.bool (!(← Op.equal ty x y))))) :
    ∃ u, (binOp op ty x y).run E.P w = .ok u w ∧ VR ρ v u := by
  cases op <;> simp only [isEql, reduceCtorEq] at hs
  · cases hs
    exact ⟨.bool b, by rw [hx _ (.inl rfl)]; simp [hq], .bool _⟩
  · cases hs
    exact ⟨.bool (!b), by rw [hx _ (.inr rfl)]; simp [hq], .bool _⟩

theorem ptrT_some {ty : TypeId} (hs : ptrT E ty = true) : ∃ e m, E.P.underlying ty = some (.pointer e) ∧ E.size e = some (m + 1) := by
  unfold ptrT Env.desc at hs
  split at hs
  · rename_i e h1
    split at hs
    · rename_i m h2; exact ⟨e, m, h1, h2⟩
    · cases hs
  · cases hs
section
variable {P : Program} {w : World} (d : Nat) {ty : TypeId}
theorem equalIn_bool (h1 : P.underlying ty = some .bool) (a b : Bool) : (Op.equalIn (d + 1) ty (.bool a) (.bool b)).run P w = .ok (a == b) w := by
  simp [Op.equalIn, run_underlying h1]
theorem equalIn_nil {e : TypeId} (h1 : P.underlying ty = some (.pointer e)) : (Op.equalIn (d + 1) ty (.pointer none) (.pointer none)).run P w = .ok true w := by
  simp [Op.equalIn, run_underlying h1]
theorem equalIn_nil1 {e : TypeId} (h1 : P.underlying ty = some (.pointer e)) (a : Addr) : (Op.equalIn (d + 1) ty (.pointer none) (.pointer (some a))).run P w = .ok false w := by
  simp [Op.equalIn, run_underlying h1]
theorem equalIn_nil2 {e : TypeId} (h1 : P.underlying ty = some (.pointer e)) (a : Addr) : (Op.equalIn (d + 1) ty (.pointer (some a)) (.pointer none)).run P w = .ok false w := by
  simp [Op.equalIn, run_underlying h1]
theorem equalIn_ptr {e : TypeId} {m : Nat} (h1 : P.underlying ty = some (.pointer e)) (h3 : (sizeOf e).run P w = .ok (m + 1) w) (a b : Addr) : (Op.equalIn (d + 1) ty (.pointer (some a)) (.pointer (some b))).run P w = (sameAddr a b).run P w := by
  simp [Op.equalIn, run_underlying h1, h3]
theorem equalIn_iface {ms : Array (String × TypeId)} (h1 : P.underlying ty = some (.interface ms)) : (Op.equalIn (d + 1) ty .nilIface .nilIface).run P w = .ok true w := by
  simp [Op.equalIn, run_underlying h1]
end
theorem eqGuard_ok {P : Program} {w : World} {op : BinOp} {ty : TypeId} {x y : Operand} {a b : Value} (hna : ∀ xs, a ≠ .agg xs) (hni : a = .nilIface → (isC x || isC y) = true) : (eqGuard op ty x y a b).run P w = .ok () w := by
  unfold eqGuard
  split
  rotate_left 2
  · rfl
  all_goals
    simp only [Bool.not_true, Bool.false_eq_true, if_false]
    cases a with
    | agg xs => exact absurd rfl (hna xs)
    | nilIface =>
      have hc := hni rfl
      cases b with
      | nilIface =>
        simp only
        rw [if_pos]
        · rfl
        · cases x <;> cases y <;> simp_all [isC]
      | _ => rfl
    | _ => cases b <;> rfl
theorem nothing_frozen {w : World} {b o : Nat} {cs : Array Value} {e : TypeId} (hb : w.heap[b]? = some (.cells cs e (0, 0))) : w.frozen? ⟨b, o, none⟩ = false := by
  simp [World.frozen?, hb]
/-- two pointers -/
theorem ptrEq_run {ty : TypeId} {ρ : Den} {l o l' o' b b' n : Nat} {w : World} {q : Bool} (hs : ptrEq h l o l' o' = some q) (ht : ptrT E ty = true) (hrel : Rel ρ h.get n w) (hl : ρ.at_ l = some b) (hl' : ρ.at_ l' = some b') :
    (Op.equal ty (.pointer (some ⟨b, o, none⟩)) (.pointer (some ⟨b', o', none⟩))).run E.P w = .ok q w := by
  obtain ⟨e, m, h1, h2⟩ := ptrT_some ht
  have h3 := (size_some h2 w).1
  have hstep : (Op.equal ty (.pointer (some ⟨b, o, none⟩)) (.pointer (some ⟨b', o', none⟩))).run E.P w = (sameAddr ⟨b, o, none⟩ ⟨b', o', none⟩).run E.P w := equalIn_ptr 9999 h1 h3 _ _
  rw [hstep]
  unfold ptrEq at hs
  rw [ifB_eq] at hs
  split at hs
  · rename_i heq
    have : l = l' := by rw [Nat.beq_eq] at heq; exact heq
    subst this
    rw [hl] at hl'
    cases hl'
    cases hs
    simp only [sameAddr]
    rw [if_pos (by simp)]
    simp only [Sem.run_pure]
    congr 1
    rw [Bool.eq_iff_iff, Nat.beq_eq]
    simp
  · rename_i hne
    have hne' : l ≠ l' := by intro he; subst he; exact hne (Nat.beq_refl l)
    simp only [ob_some] at hs
    obtain ⟨x, hx, y, hy, hs⟩ := hs
    cases x <;> cases y <;> simp only [reduceCtorEq, Option.some.injEq] at hs
    subst hs
    have hbb : b ≠ b' := by
      intro he
      subst he
      exact hne' (hrel.inj l l' b _ _ hl hl' hx hy)
    obtain ⟨z, hz, cs, rfl, _⟩ := hrel.obj l _ b hx hl
    obtain ⟨z', hz', cs', rfl, _⟩ := hrel.obj l' _ b' hy hl'
    have hbf : (b == b') = false := by simpa using hbb
    simp [sameAddr, hbf, nothing_frozen hz, nothing_frozen hz', noView, viewAt, World.shape?, hz, hz', mayBeOne, stringish]

theorem binopV_run {op : BinOp} {ty : TypeId} {c : Bool} {ρ : Den} {x y v : AV} {u u' : Value} {n : Nat} {w : World} (hs : binopV E h op ty c x y = some v) (hsig : SigOK E ρ) (hrel : Rel ρ h.get n w) (hx : VR ρ x u) (hy : VR ρ y u') :
    (∃ z, (binOp op ty u u').run E.P w = .ok z w ∧ VR ρ v z) ∧ ((∀ xs, u ≠ .agg xs) ∧ (u = .nilIface → c = true)) := by
  unfold binopV at hs
  cases x <;> simp only [reduceCtorEq] at hs
  · -- bool
    simp only [gd_some, asBool_some] at hs
    obtain ⟨ht, b, rfl, hs⟩ := hs
    cases hx
    cases hy
    rename_i a
    refine ⟨isEql_run hs w ?_ ?_, by simp, by simp⟩
    · have h1 : E.P.underlying ty = some .bool := by
        unfold boolT Env.desc at ht
        split at ht
        · assumption
        · cases ht
      exact equalIn_bool 9999 h1 _ _
    · intro o ho
      rcases ho with rfl | rfl <;> simp [binOp]
  · -- int
    rename_i q a
    unfold binopInt at hs
    cases y <;> simp only [reduceCtorEq, gd_some, decide_eq_true_eq] at hs
    obtain ⟨rfl, hs⟩ := hs
    cases hx
    cases hy
    exact ⟨intOp_run hs w, by simp, by simp⟩
  · -- sym
    rename_i a
    unfold binopSym at hs
    cases y <;> simp only [reduceCtorEq, gd_some, decide_eq_true_eq] at hs
    · obtain ⟨rfl, hs⟩ := hs
      cases hx
      cases hy
      exact ⟨symOp_run hs hsig w, by simp, by simp⟩
    · cases hx
      cases hy
      exact ⟨symSym_run hs w, by simp, by simp⟩
  · -- float
    cases y <;> simp only [reduceCtorEq, gd_some, decide_eq_true_eq] at hs
    obtain ⟨rfl, hs⟩ := hs
    cases hx
    cases hy
    exact ⟨floatOp_run hs w, by simp, by simp⟩
  · -- string
    simp only [asStr_some] at hs
    obtain ⟨t', o', n', rfl, hs⟩ := hs
    have hx' := hx
    have hy' := hy
    cases hx
    cases hy
    exact ⟨strOp_run hs hx' hy' w, by simp, by simp⟩
  · -- pointer
    rename_i l o
    unfold binopPtr at hs
    simp only [gd_some] at hs
    obtain ⟨ht, hs⟩ := hs
    obtain ⟨e, m, h1, h2⟩ := ptrT_some ht
    cases y <;> simp only [reduceCtorEq, ob_some] at hs
    · obtain ⟨q, hq, hs⟩ := hs
      cases hx
      cases hy
      rename_i b hb b' hb'
      refine ⟨isEql_run hs w (ptrEq_run hq ht hrel hb hb') ?_, by simp, by simp⟩
      intro o ho
      rcases ho with rfl | rfl <;> simp [binOp]
    · cases hx
      cases hy
      refine ⟨isEql_run hs w ?_ ?_, by simp, by simp⟩
      · exact equalIn_nil2 9999 h1 _
      · intro o ho
        rcases ho with rfl | rfl <;> simp [binOp]
  · -- nil
    unfold binopNil at hs
    simp only [gd_some] at hs
    obtain ⟨ht, hs⟩ := hs
    obtain ⟨e, m, h1, h2⟩ := ptrT_some ht
    cases y <;> simp only [reduceCtorEq] at hs
    · cases hx
      cases hy
      refine ⟨isEql_run hs w ?_ ?_, by simp, by simp⟩
      · exact equalIn_nil1 9999 h1 _
      · intro o ho
        rcases ho with rfl | rfl <;> simp [binOp]
    · cases hx
      cases hy
      refine ⟨isEql_run hs w ?_ ?_, by simp, by simp⟩
      · exact equalIn_nil 9999 h1
      · intro o ho
        rcases ho with rfl | rfl <;> simp [binOp]
  · -- nil interface
    simp only [gd_some] at hs
    obtain ⟨ht, hc, hs⟩ := hs
    cases y <;> simp only [reduceCtorEq] at hs
    cases hx
    cases hy
    refine ⟨isEql_run hs w ?_ ?_, by simp, fun _ => hc⟩
    · have h1 : ∃ ms, E.P.underlying ty = some (.interface ms) := by
        unfold ifaceT Env.desc at ht
        split at ht
        · exact ⟨_, by assumption⟩
        · cases ht
      obtain ⟨ms, h1⟩ := h1
      exact equalIn_iface 9999 h1
    · intro o ho
      rcases ho with rfl | rfl <;> simp [binOp]

theorem binF_ok {op : BinOp} {ty yt : TypeId} {x y : Operand} (hr : binF E op ty x y t h k = some r) : ∃ v, k v = some r ∧ PureOK E (.binOp op ty x y yt) t h v := by
  unfold binF at hr
  simp only [evK_eq, ob_some, forceA_eq] at hr
  obtain ⟨v, hv, hr⟩ := hr
  refine ⟨v, hr, fun ρ w a n o ho hsig hrel hx => ?_⟩
  obtain ⟨⟨z, hz, hvr⟩, hna, hni⟩ := binopV_run hv hsig hrel (hx x (by simp [Op.operands])) (hx y (by simp [Op.operands]))
  refine ⟨z, ?_, hvr⟩
  have hg : (eqGuard op ty x y (a.eval x) (a.eval y)).run E.P w = .ok () w := eqGuard_ok hna hni
  simp [execOp, ho, hg, hz]
end
end Go.Proofs.YtgedmmmgkfehjaaGreatDoor
