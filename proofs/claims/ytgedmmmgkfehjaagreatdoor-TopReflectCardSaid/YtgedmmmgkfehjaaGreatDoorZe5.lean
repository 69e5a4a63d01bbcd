/- Whatever operation writes. -/
import Derived.Test.YtgedmmmgkfehjaaGreatDoorZe4
namespace Go.Proofs.YtgedmmmgkfehjaaGreatDoor

/-- one label goes, its block turns -/
theorem Post.drop {ρ : Den} {h h' : Hf} {n : Nat} {w w' : World} {l b : Nat} {o : AO} (hr : Rel ρ h n w) (hl : ρ.at_ l = some b) (ho : h l = some o) (h0 : h' l = none) (h2 : ∀ x, x ≠ l → h' x = h x)
    (g3 : ∀ k, k ≠ b → w'.heap[k]? = w.heap[k]?) (g4 : w'.heap.size = w.heap.size) (g5 : w'.os = w.os) (g6 : w'.tape = w.tape) (g7 : w'.output = w.output) :
    Post ρ h n w ρ h' n w' := by
  have hg : ∀ x p, h' x = some p → x ≠ l ∧ h x = some p := by
    intro x p hxp
    have hxl : x ≠ l := by intro e; subst e; rw [h0] at hxp; cases hxp
    exact ⟨hxl, by rw [← h2 x hxl]; exact hxp⟩
  refine ⟨.refl ρ, ⟨by rw [g4]; exact hr.floor, fun x y hx => by rw [g4]; exact hr.dom x y hx, ?_, ?_⟩, Nat.le_refl _, ?_, ?_, fun _ _ hx => .inl hx, ?_, by omega, g5, g6, g7⟩
  · intro x q y hx hy
    obtain ⟨hxl, hx'⟩ := hg x q hx
    obtain ⟨z, hz, hor⟩ := hr.obj x q y hx' hy
    refine ⟨z, ?_, hor⟩
    rw [g3 y ?_]
    · exact hz
    · intro e
      subst e
      exact hxl (hr.inj x l y _ _ hy hl hx' ho)
  · intro x x' y q q' hx hx' hq hq'
    exact hr.inj x x' y _ _ hx hx' (hg x q hq).2 (hg x' q' hq').2
  · intro x hx hnone
    have hxl : x ≠ l := by intro e; subst e; rw [hl] at hnone; cases hnone
    exact ⟨hnone, h2 x hxl⟩
  · intro x hx hnone
    by_cases hxl : x = l
    · subst hxl; exact h0
    · rw [h2 x hxl]; exact hnone
  · intro k hk hno
    exact g3 k fun e => by subst e; exact hno l o ho hl

section
variable {β : Type} {E : Env} {t : Tm} {h : Hp} {n : Nat} {k : AV → Hp → Nat → R β} {r : β}

theorem appendF_ok {s x : Operand} {ty tx : TypeId} (hr : appendF E s x ty tx t h n k = some r) : ∃ v h' n', k v h' n' = some r ∧ WriteOK E (.call { callee := .builtin .append, args := #[s, x], argTypes := #[ty, tx] }) t h n v h' n' := by
  unfold appendF at hr
  simp only [ob_some, gd_some, evK_eq] at hr
  obtain ⟨⟨e, z⟩, hs, h1, bt, hbt, hbt2, zv, hz, hlen, htx, hr⟩ := hr
  obtain ⟨cnt, vs, hr, hln, hmore⟩ := moreK_ok (E := E) hr
  rw [gd_some] at hr
  obtain ⟨hcnt, hr⟩ := hr
  obtain ⟨v, h', n', hr, happ⟩ := appendK_ok (E := E) hr (Nat.le_of_ble_eq_true hcnt) hln
  refine ⟨v, h', n', hr, fun ρ w a o ho hsig hrel hx => ?_⟩
  have hx1 := hx s (by simp [Op.operands, Call.operands])
  have hx2 := hx x (by simp [Op.operands, Call.operands])
  obtain ⟨new, hm, hv⟩ := hmore ρ n w (a.eval x) hrel hx2
  have T : ∃ d i, AppT E ty tx e d i zv z := by
    obtain ⟨g1, g2⟩ := sliceE_some hs
    have hd : ∃ d, E.P.underlying tx = some d ∧ ((∃ q, d = .slice q) ∨ d = .string) := by
      unfold sliceOrString Env.desc at htx
      split at htx
      · exact ⟨_, by assumption, .inl ⟨_, rfl⟩⟩
      · exact ⟨_, by assumption, .inr rfl⟩
      · cases htx
    obtain ⟨d, hd1, hd2⟩ := hd
    unfold Env.bytes at hbt
    unfold Env.zero at hz
    unfold Env.size at g2
    cases hi : E.P.info? e with
    | none => simp [hi] at hbt
    | some i =>
      simp [hi] at hbt hz g2
      rw [Nat.beq_eq, lenL_eq] at hlen
      exact ⟨d, i, g1, hd1, hd2, hi, hz, g2, by rw [← (ofV_cells ρ zv).1]; exact hlen, by rw [hbt]; exact Nat.le_of_ble_eq_true hbt2, Nat.le_of_ble_eq_true h1⟩
  obtain ⟨d, i, T⟩ := T
  obtain ⟨u, w', ρ', g1, g2, g3⟩ := happ ty tx o.type d i zv T ρ w (a.eval s) (a.eval x) new hrel hx1 hm hv
  exact ⟨u, w', ρ', .inl (by simp [execOp, ho, resolve, invoke, builtin, g1]), g2, g3⟩

theorem mapUpdateF_ok {ty : TypeId} {m i x : Operand} (hr : mapUpdateF E ty m i x t h n k = some r) : ∃ v h' n', k v h' n' = some r ∧ WriteOK E (.mapUpdate ty m i x) t h n v h' n' := by
  unfold mapUpdateF at hr
  simp only [ob_some, evK_eq, asMap_some] at hr
  obtain ⟨e, he, l, hl, b, hb, hr⟩ := hr
  cases b <;> simp only [reduceCtorEq, asAgg_some, ob_some] at hr
  rename_i es
  obtain ⟨ks, hks, bb, hbb, res, hres, hr⟩ := hr
  cases res with
  | some v => cases hr
  | none =>
    simp only at hr
    obtain ⟨h', hr, hh⟩ := Tr.setK_spec _ _ _ _ _ hr
    obtain ⟨kt, ii, h1, h2, h3, h4⟩ := mapT_some he
    refine ⟨_, _, _, hr, fun ρ w a o ho hsig hrel hx => ?_⟩
    have hx1 := hx m (by simp [Op.operands])
    have hx2 := hx i (by simp [Op.operands])
    have hx3 := hx x (by simp [Op.operands])
    rw [hl] at hx1
    rw [hks] at hx2
    generalize hu : a.eval m = u at hx1
    generalize hu2 : a.eval i = u2 at hx2
    cases hx1
    rename_i bl hbl
    have hx2' := hx2
    cases hx2
    rename_i us g1 g2
    obtain ⟨z, hz, ms, clock, rfl, g3, g4⟩ := hrel.obj l _ bl hb hbl
    have her : ER ρ es ms.toList := ⟨by simpa using g3, fun j p q hp hq => g4 j p q hp (by simpa using hq)⟩
    have hf := findK_run (w := w) h2 h3 h4 hsig ⟨g1, g2⟩ es ms.toList none 0 her hres
    have hck : (Instr.checkKey false 10000 kt (.agg us)).run E.P w = .ok () w := by
      obtain ⟨p, q, r, p', q', r', rfl, _, _⟩ := three hbb hsig ⟨g1, g2⟩ ⟨g1, g2⟩
      exact checkKey_three 9998 h2 h3 (size_some h4 w).1 _ p q r
    have hgo : (getObj bl).run E.P w = .ok (.map ms clock) w := by
      simp [getObj, Sem.run, hz]
    have hbs : bl < w.heap.size := (Array.getElem?_eq_some_iff.1 hz).1
    have hset : (setObj bl (.map (ms.push { key := .agg us, val := a.eval x, born := clock }) (clock + 1))).run E.P w = .ok () { w with heap := w.heap.setIfInBounds bl (.map (ms.push { key := .agg us, val := a.eval x, born := clock }) (clock + 1)) } := by
      simp [setObj, Sem.run, hz]
    refine ⟨undef, { w with heap := w.heap.setIfInBounds bl (.map (ms.push { key := .agg us, val := a.eval x, born := clock }) (clock + 1)) }, ρ, .inr ⟨?_, rfl⟩, Post.turn (o' := .map (es ++ [(.agg ks, ev t x)])) (obj := .map (ms.push { key := .agg us, val := a.eval x, born := clock }) (clock + 1)) hrel hbl hb (by rw [hh, if_pos rfl]) (fun y hy => by rw [hh, if_neg hy]) ?_ ?_ ?_ ?_ rfl rfl rfl, .undef⟩
    · simp only [execOp, ho, hu, hu2, Instr.mapUpdate, Sem.run_bind, run_underlying h1, Result.andThen_ok, hgo, hck, findKey_run h2, hf, hset, Sem.run_pure]
    · simp [hbs]
    · refine ⟨_, _, rfl, by simp [g3], fun j p q hp hq => ?_⟩
      rw [Array.getElem?_push] at hq
      by_cases hj : j < es.length
      · rw [List.getElem?_append_left hj] at hp
        rw [if_neg (by omega)] at hq
        exact g4 j p q hp hq
      · rw [List.getElem?_append_right (by omega)] at hp
        have hj0 : j = es.length := by
          have := (List.getElem?_eq_some_iff.1 hp).1
          simp at this
          omega
        subst hj0
        rw [if_pos g3] at hq
        simp at hp
        cases hq
        subst hp
        exact ⟨hx2', hx3⟩
    · intro y hy
      simp [Ne.symm hy]
    · simp

theorem ptrTo_some {ty e : TypeId} (hs : ptrTo E ty = some e) : E.P.underlying ty = some (.pointer e) := by
  unfold ptrTo Env.desc at hs
  split at hs
  · cases hs; assumption
  · cases hs
theorem byteL_some : ∀ (vs : List AV) (bs : List Nat), byteL vs = some bs → vs.length = bs.length ∧ ∀ (i : Nat) (v : AV), vs[i]? = some v → ∃ b, bs[i]? = some b ∧ v = .int .u8 (.ofNat b) ∧ b < 256
  | [], bs, h => by
    have : some ([] : List Nat) = some bs := h
    cases this
    exact ⟨rfl, fun i v hv => by simp at hv⟩
  | v :: vs, bs, h => by
    have h' : (match (generalizing := false) v with | .int .u8 (.ofNat b) => gd (Nat.ble (Nat.succ b) 256) <| ob (byteL vs) fun l => some (b :: l) | _ => none) = some bs := h
    split at h'
    · rename_i b
      simp only [gd_some, ob_some] at h'
      obtain ⟨hb, l, hl, he⟩ := h'
      cases he
      obtain ⟨h1, h2⟩ := byteL_some vs l hl
      refine ⟨by simp [h1], fun i v hv => ?_⟩
      cases i with
      | zero =>
        simp at hv
        subst hv
        exact ⟨b, rfl, rfl, Nat.le_of_ble_eq_true hb⟩
      | succ i => simpa using h2 i v (by simpa using hv)
    · cases h'
theorem run_loadBytes {P : Program} {w : World} {b : Nat} : ∀ (bs : List Nat) (o : Nat) (acc : ByteArray), (∀ (i x : Nat), bs[i]? = some x → x < 256 ∧ w.cell? ⟨b, o + i, none⟩ = some (.int .u8 x)) →
    (loadBytes ⟨b, o, none⟩ acc bs.length).run P w = .ok ⟨acc.data ++ (bs.map fun x => x.toUInt8).toArray⟩ w
  | [], o, acc, _ => by
    simp [loadBytes]
  | x :: bs, o, acc, h => by
    have h0 := (h 0 x rfl).2
    rw [Nat.add_zero] at h0
    have ih := run_loadBytes (P := P) (w := w) bs (o + 1) (acc.push x.toUInt8) (fun i y hy => by
      have := h (i + 1) y (by simpa using hy)
      rw [show o + (i + 1) = o + 1 + i from by omega] at this
      exact this)
    have hadd : (⟨b, o, none⟩ : Addr).add 1 = ⟨b, o + 1, none⟩ := Addr.add_mid b o 1
    simp only [List.length_cons, loadBytes, Sem.run_bind, run_load, h0, Result.andThen_ok, hadd, Int.toNat_natCast]
    rw [ih]
    congr 2
    simp [ByteArray.push]

theorem unsafeStringF_ok {p x : Operand} {ty : TypeId} {tys : List TypeId} (hr : unsafeStringF E p x ty t h n k = some r) : ∃ v h' n', k v h' n' = some r ∧ WriteOK E (.call { callee := .builtin .unsafeString, args := #[p, x], argTypes := (ty :: tys).toArray }) t h n v h' n' := by
  unfold unsafeStringF at hr
  simp only [ob_some, gd_some, evK_eq, asPtr_some, asNat_some] at hr
  obtain ⟨e, he, hsz, l, o, hp, q, m, hm, h1, h2, b, hb, hr⟩ := hr
  cases b <;> simp only [reduceCtorEq, gd_some, ob_some] at hr
  rename_i c kn z e'
  obtain ⟨hz, hee, vs, hvs, bs, hbs, s, hs, hr⟩ := hr
  rw [Nat.beq_eq] at hz hee hsz
  subst hz
  subst hee
  obtain ⟨h', hr, hh⟩ := Tr.setK_spec _ _ _ _ _ hr
  refine ⟨s, h', n, hr, fun ρ w a op ho hsig hrel hx => ?_⟩
  have hx1 := hx p (by simp [Op.operands, Call.operands])
  have hx2 := bound_eval (hx x (by simp [Op.operands, Call.operands])) hm
  rw [hp] at hx1
  generalize hu : a.eval p = u at hx1
  cases hx1
  rename_i bl hbl
  obtain ⟨us, g1, g2, g3⟩ := readN_cells hrel hb hbl hvs
  obtain ⟨y, hy, cs, rfl, g4, g5, g6, g7⟩ := hrel.obj l _ bl hb hbl
  obtain ⟨g8, g9⟩ := byteL_some vs bs hbs
  have hlen := (readN_spec _ _ _ _ hvs).1
  have h1' := Nat.le_of_ble_eq_true h1
  have h2' := Nat.le_of_ble_eq_true h2
  have hcell : ∀ (i x : Nat), bs[i]? = some x → x < 256 ∧ w.cell? ⟨bl, o + i, none⟩ = some (.int .u8 x) := by
    intro i x hxi
    have hi : i < vs.length := by
      have := (List.getElem?_eq_some_iff.1 hxi).1
      omega
    obtain ⟨b, hb1, hb2, hb3⟩ := g9 i vs[i] (List.getElem?_eq_getElem hi)
    rw [hxi] at hb1
    cases hb1
    refine ⟨hb3, ?_⟩
    have hui : i < us.length := by omega
    have hvr := g3.2 i vs[i] us[i] (List.getElem?_eq_getElem hi) (by simp [hui])
    rw [hb2] at hvr
    have hc := g2 i us[i] (List.getElem?_eq_getElem hui)
    rw [hc]
    generalize us[i] = uu at hvr
    cases hvr
    rfl
  have hload := run_loadBytes (P := E.P) (w := w) bs o .empty hcell
  rw [← g8, hlen] at hload
  have hsize : E.P.cellsOf e = 1 := by
    unfold Env.size at hsz
    simp [Program.cellsOf, hsz]
  have hfit : o + m ≤ cs.size := by
    have := hcell (m - 1) bs[m - 1] (List.getElem?_eq_getElem (by omega))
    have := this.2
    simp [World.cell?, hy] at this
    obtain ⟨hlt, _⟩ := Array.getElem?_eq_some_iff.1 this
    omega
  have hva : (variablesAt ⟨bl, o, none⟩ e m).run E.P w = .ok true w := by
    obtain ⟨d, hd⟩ := depth_succ E.P
    have hlay := sameLayout_refl E.P e
    have h4 : rowAt E.P (sameLayout E.P E.P.depth · e) E.P.depth e (cs.size / E.P.cellsOf e) o m = true := by
      rw [hd] at hlay ⊢
      simp [rowAt, hsize, hlay, hfit, Nat.mod_one]
    have h7 : liesAt E.P E.P.depth e (cs.size / E.P.cellsOf e) o e m = true := by
      rw [hd] at h4 ⊢
      simp only [liesAt]
      rw [hd]
      simp [h4]
    simp [variablesAt, World.shape?, hy, h7]
  obtain ⟨tr, rfl, htr⟩ := strOf_spec hs
  have hlb : bs.length = m := by omega
  have hrun : (Builtin.unsafeString_ (ty :: tys).toArray op.type #[.pointer (some ⟨bl, o, none⟩), .int q m]).run E.P w = .ok (.string ⟨ByteArray.empty.data ++ (bs.map fun x => x.toUInt8).toArray⟩) (w.freeze ⟨bl, o, none⟩ m) := by
    have e1 : ¬ ((m : Int) < 0) := by omega
    have e2 : ¬ ((m : Int) > IntKind.i64.max) := by
      have : IntKind.i64.max = 9223372036854775807 := by decide
      rw [this]
      omega
    have e3 : ¬ ((m : Int) = 0) := by omega
    have e4 : (elemOf ty).run E.P w = .ok e w := by simp [elemOf, run_underlying (ptrTo_some he)]
    refine (congrArg (fun c => Sem.run E.P c w) (show Builtin.unsafeString_ (ty :: tys).toArray op.type #[.pointer (some ⟨bl, o, none⟩), .int q m] = (asInt (.int q m) >>= _) from rfl)).trans ?_
    simp [asInt, asIntOf, e1, e4, hva, hload]
    rw [if_neg (by omega), if_neg (by omega)]
  refine ⟨.string ⟨ByteArray.empty.data ++ (bs.map fun x => x.toUInt8).toArray⟩, w.freeze ⟨bl, o, none⟩ m, ρ, .inl (by simp only [execOp, ho, resolve, Sem.run_bind, Sem.run_pure, Result.andThen_ok, invoke, builtin, List.map_toArray, List.map_cons, List.map_nil, hu, hx2, hrun]), ?_, ?_⟩
  · refine Post.drop hrel hbl hb (by rw [hh, if_pos rfl]) (fun y hy => by rw [hh, if_neg hy]) (fun k hk => ?_) ?_ ?_ ?_ ?_
    · unfold World.freeze
      split
      · rfl
      · simp only [Array.getElem?_modify]
        rw [if_neg (Ne.symm hk)]
    all_goals (unfold World.freeze; split <;> simp)
  · refine str_vr bs _ ?_ htr
    apply List.ext_getElem?
    intro i
    simp only [List.getElem?_map]
    show bs[i]? = Option.map UInt8.toNat ((#[] : Array UInt8) ++ (bs.map fun x => x.toUInt8).toArray).toList[i]?
    simp
    cases hbi : bs[i]? with
    | none => rfl
    | some x =>
      have := (hcell i x hbi).1
      simp
      omega

theorem writeF_ok {op : Op} (hr : writeF E op t h n k = some r) : ∃ v h' n', k v h' n' = some r ∧ WriteOK E op t h n v h' n' := by
  cases op with
  | store ty a x => exact storeF_ok hr
  | mapUpdate ty m i x => exact mapUpdateF_ok hr
  | call c =>
    obtain ⟨callee, args, tys⟩ := c
    cases callee with
    | value f => cases hr
    | invoke r m => cases hr
    | builtin b =>
      have hr' : writeB E b args tys t h n k = some r := hr
      obtain ⟨args⟩ := args
      obtain ⟨tys⟩ := tys
      cases b with
      | append =>
        rcases args with _ | ⟨x, _ | ⟨y, _ | ⟨z, args⟩⟩⟩
        · cases hr'
        · cases hr'
        · rcases tys with _ | ⟨ty, _ | ⟨ty', _ | ⟨ty'', tys⟩⟩⟩
          · cases hr'
          · cases hr'
          · exact appendF_ok hr'
          · cases hr'
        · cases hr'
      | unsafeString =>
        rcases args with _ | ⟨x, _ | ⟨y, _ | ⟨z, args⟩⟩⟩
        · cases hr'
        · cases hr'
        · rcases tys with _ | ⟨ty, tys⟩
          · cases hr'
          · exact unsafeStringF_ok hr'
        · cases hr'
      | _ => cases hr'
  | _ => cases hr
end
end Go.Proofs.YtgedmmmgkfehjaaGreatDoor
