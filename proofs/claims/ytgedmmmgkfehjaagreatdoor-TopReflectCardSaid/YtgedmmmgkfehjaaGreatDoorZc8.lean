/- Lookups; what the reckoner says of whatever operation turns nothing. -/
import Derived.Test.YtgedmmmgkfehjaaGreatDoorZc7
namespace Go.Proofs.YtgedmmmgkfehjaaGreatDoor

section
variable {β : Type} {E : Env} {t : Tm} {h : Hp} {k : AV → R β} {r : β}

theorem keyEq_some {ρ : Den} {x y : AV} {b : Bool} {u u' : Value} (hs : keyEq E x y = some b) (hsig : SigOK E ρ) (hx : VR ρ x u) (hy : VR ρ y u') : ∃ p q : Int, u = .int .i64 p ∧ u' = .int .i64 q ∧ b = (p == q) := by
  unfold keyEq at hs
  split at hs
  · cases hx; cases hy; cases hs
    exact ⟨_, _, rfl, rfl, rfl⟩
  · cases hx; cases hy; cases hs
    refine ⟨_, _, rfl, rfl, ?_⟩
    rw [Bool.eq_iff_iff]; simp
  · cases hx; cases hy
    rename_i c n
    simp only [ob_some, asBool_some] at hs
    obtain ⟨v, hv, b', rfl, hs⟩ := hs
    cases hs
    obtain ⟨z, h1, h2⟩ := symOp_run (ty := 0) (ρ := ρ) hv hsig default
    refine ⟨_, _, rfl, rfl, ?_⟩
    simp [binOp, Op.intCmp] at h1
    subst h1
    cases h2
    rfl
  · cases hx; cases hy
    rename_i n c
    simp only [ob_some, asBool_some] at hs
    obtain ⟨v, hv, b', rfl, hs⟩ := hs
    cases hs
    obtain ⟨z, h1, h2⟩ := symOp_run (ty := 0) (ρ := ρ) hv hsig default
    refine ⟨_, _, rfl, rfl, ?_⟩
    simp [binOp, Op.intCmp] at h1
    subst h1
    generalize hb : (ρ.sig + c == n) = b at h2
    cases h2
    rw [← hb, Bool.eq_iff_iff]
    simp
    omega
  · cases hs

theorem mapT_some {ty e : TypeId} (hs : mapT E ty = some e) : ∃ kt i, E.P.underlying ty = some (.map kt e) ∧ E.P.underlying kt = some (.array 3 i) ∧ E.P.underlying i = some (.int .i64) ∧ E.size i = some 1 := by
  unfold mapT Env.desc at hs
  split at hs
  · rename_i kt e' h1
    split at hs
    · rename_i i h2
      split at hs
      · rename_i h3 h4
        cases hs
        exact ⟨kt, i, h1, h2, h3, h4⟩
      · cases hs
    · cases hs
  · cases hs

/-- three ints as a key -/
theorem three {ρ : Den} {xs ys : List AV} {us vs : Array Value} {b : Bool} (hs : key3 E xs ys = some b) (hsig : SigOK E ρ) (hx : VRs ρ xs us) (hy : VRs ρ ys vs) :
    ∃ p q r p' q' r' : Int, us = #[.int .i64 p, .int .i64 q, .int .i64 r] ∧ vs = #[.int .i64 p', .int .i64 q', .int .i64 r'] ∧ b = ((p == p') && ((q == q') && (r == r'))) := by
  unfold key3 at hs
  split at hs
  · rename_i a b c a' b' c'
    simp only [ob_some] at hs
    obtain ⟨b1, h1, b2, h2, b3, h3, hs⟩ := hs
    cases hs
    obtain ⟨us⟩ := us
    obtain ⟨vs⟩ := vs
    have l1 := hx.1
    have l2 := hy.1
    match us, vs, l1, l2 with
    | [u1, u2, u3], [v1, v2, v3], _, _ =>
      obtain ⟨p, p', rfl, rfl, rfl⟩ := keyEq_some h1 hsig (hx.2 0 _ _ rfl rfl) (hy.2 0 _ _ rfl rfl)
      obtain ⟨q, q', rfl, rfl, rfl⟩ := keyEq_some h2 hsig (hx.2 1 _ _ rfl rfl) (hy.2 1 _ _ rfl rfl)
      obtain ⟨r, r', rfl, rfl, rfl⟩ := keyEq_some h3 hsig (hx.2 2 _ _ rfl rfl) (hy.2 2 _ _ rfl rfl)
      exact ⟨p, q, r, p', q', r', rfl, rfl, rfl⟩
  · cases hs

section
variable {P : Program} {w : World} (d : Nat) {kt i : TypeId}
theorem part_int (h2 : P.underlying i = some (.int .i64)) (cs : Array Value) (j : Nat) (v : Value) (hv : cs[j]? = some v) : (part i cs j).run P w = .ok v w := by
  have hagg : (isAgg i).run P w = .ok false w := by
    unfold isAgg
    rw [Sem.run_bind, run_underlying h2 w]
    rfl
  simp [part, hagg, hv]
theorem equalIn_int (h2 : P.underlying i = some (.int .i64)) (a b : Int) : (Op.equalIn (d + 1) i (.int .i64 a) (.int .i64 b)).run P w = .ok (a == b) w := by
  simp [Op.equalIn, run_underlying h2]
theorem equal_three (h1 : P.underlying kt = some (.array 3 i)) (h2 : P.underlying i = some (.int .i64)) (h3 : (sizeOf i).run P w = .ok 1 w) (p q r p' q' r' : Int) :
    (Op.equalIn (d + 2) kt (.agg #[.int .i64 p, .int .i64 q, .int .i64 r]) (.agg #[.int .i64 p', .int .i64 q', .int .i64 r'])).run P w = .ok ((p == p') && ((q == q') && (r == r'))) w := by
  have e0 := equalIn_int (P := P) (w := w) d h2 p p'
  have e1 := equalIn_int (P := P) (w := w) d h2 q q'
  have e2 := equalIn_int (P := P) (w := w) d h2 r r'
  have a0 := part_int (P := P) (w := w) h2 #[.int .i64 p, .int .i64 q, .int .i64 r] 0 _ rfl
  have a1 := part_int (P := P) (w := w) h2 #[.int .i64 p, .int .i64 q, .int .i64 r] 1 _ rfl
  have a2 := part_int (P := P) (w := w) h2 #[.int .i64 p, .int .i64 q, .int .i64 r] 2 _ rfl
  have b0 := part_int (P := P) (w := w) h2 #[.int .i64 p', .int .i64 q', .int .i64 r'] 0 _ rfl
  have b1 := part_int (P := P) (w := w) h2 #[.int .i64 p', .int .i64 q', .int .i64 r'] 1 _ rfl
  have b2 := part_int (P := P) (w := w) h2 #[.int .i64 p', .int .i64 q', .int .i64 r'] 2 _ rfl
  rw [Op.equalIn]
  simp only [Sem.run_bind, run_underlying h1, Result.andThen_ok, h3]
  simp only [Std.Legacy.Range.forIn_eq_forIn_range', Std.Legacy.Range.size]
  simp [List.range', a0, a1, a2, b0, b1, b2, e0, e1, e2]
  by_cases h : p = p' <;> simp [h]
  by_cases h : q = q' <;> simp [h]
  by_cases h : r = r' <;> simp [h]
theorem checkKey_int (h2 : P.underlying i = some (.int .i64)) (e : Bool) (p : Int) : (Instr.checkKey e (d + 1) i (.int .i64 p)).run P w = .ok () w := by
  simp [Instr.checkKey, run_underlying h2]
theorem checkKey_three (h1 : P.underlying kt = some (.array 3 i)) (h2 : P.underlying i = some (.int .i64)) (h3 : (sizeOf i).run P w = .ok 1 w) (e : Bool) (p q r : Int) :
    (Instr.checkKey e (d + 2) kt (.agg #[.int .i64 p, .int .i64 q, .int .i64 r])).run P w = .ok () w := by
  have a0 := part_int (P := P) (w := w) h2 #[.int .i64 p, .int .i64 q, .int .i64 r] 0 _ rfl
  have a1 := part_int (P := P) (w := w) h2 #[.int .i64 p, .int .i64 q, .int .i64 r] 1 _ rfl
  have a2 := part_int (P := P) (w := w) h2 #[.int .i64 p, .int .i64 q, .int .i64 r] 2 _ rfl
  have e0 := checkKey_int (P := P) (w := w) d h2 e p
  have e1 := checkKey_int (P := P) (w := w) d h2 e q
  have e2 := checkKey_int (P := P) (w := w) d h2 e r
  rw [Instr.checkKey]
  simp only [Sem.run_bind, run_underlying h1, Result.andThen_ok]
  simp only [Std.Legacy.Range.forIn_eq_forIn_range', Std.Legacy.Range.size]
  simp [List.range', h3, a0, a1, a2, e0, e1, e2]
end

/-- the entries of a map -/
def ER (ρ : Den) (es : List (AV × AV)) (ms : List MapEntry) : Prop := es.length = ms.length ∧ ∀ (i : Nat) (p : AV × AV) (e : MapEntry), es[i]? = some p → ms[i]? = some e → VR ρ p.1 e.key ∧ VR ρ p.2 e.val
theorem findK_run {ρ : Den} {kt i : TypeId} {key : List AV} {us : Array Value} {w : World} (h1 : E.P.underlying kt = some (.array 3 i)) (h2 : E.P.underlying i = some (.int .i64)) (h3 : E.size i = some 1) (hsig : SigOK E ρ) (hk : VRs ρ key us) :
    ∀ (es : List (AV × AV)) (ms : List MapEntry) (res : Option AV) (j : Nat), ER ρ es ms → findK E es key = some res →
      match res with
      | none => (Instr.findAsking kt (.agg us) ms j).run E.P w = .ok none w
      | some v => ∃ n u, (Instr.findAsking kt (.agg us) ms j).run E.P w = .ok (some (n, u)) w ∧ VR ρ v u
  | [], ms, res, j, her, hf => by
    have : ms = [] := List.length_eq_zero_iff.1 (by simpa using her.1.symm)
    subst this
    have : some none = some res := hf
    cases this
    rfl
  | e :: es, ms, res, j, her, hf => by
    cases ms with
    | nil => have := her.1; simp at this
    | cons m ms =>
      have hf' : (asAgg' e.1 fun ks => ob (key3 E key ks) fun b => ifB b (some (some e.2)) (findK E es key)) = some res := hf
      simp only [asAgg_some, ob_some] at hf'
      obtain ⟨ks, he, b, hb, hf'⟩ := hf'
      obtain ⟨hk1, hv1⟩ := her.2 0 e m rfl rfl
      rw [he] at hk1
      generalize hmk : m.key = mk at hk1
      cases hk1
      rename_i vs g1 g2
      obtain ⟨p, q, r, p', q', r', rfl, rfl, hbe⟩ := three hb hsig hk ⟨g1, g2⟩
      have heq := equal_three (P := E.P) (w := w) 9998 h1 h2 (size_some h3 w).1 p q r p' q' r'
      have heq' : (Op.equal kt (.agg #[.int .i64 p, .int .i64 q, .int .i64 r]) m.key).run E.P w = .ok b w := by rw [hmk, hbe]; exact heq
      have ih := findK_run (w := w) h1 h2 h3 hsig hk es ms res (j + 1) ⟨by have := her.1; simpa using this, fun n a c ha hc => her.2 (n + 1) a c (by simpa using ha) (by simpa using hc)⟩
      cases b with
      | true =>
        have : some (some e.2) = some res := hf'
        cases this
        refine ⟨j, m.val, ?_, hv1⟩
        simp [Instr.findAsking, heq']
      | false =>
        have ih' := ih hf'
        cases res with
        | none => simpa [Instr.findAsking, heq'] using ih'
        | some v =>
          obtain ⟨n, u, h5, h6⟩ := ih'
          exact ⟨n, u, by simpa [Instr.findAsking, heq'] using h5, h6⟩
theorem findKey_run {P : Program} {kt i : TypeId} {w : World} (h1 : P.underlying kt = some (.array 3 i)) (u : Value) (ms : List MapEntry) : (Instr.findKey kt u ms).run P w = (Instr.findAsking kt u ms 0).run P w := by
  unfold Instr.findKey
  simp only [Sem.run_bind, run_underlying h1, Result.andThen_ok]
  cases ms with
  | nil => rfl
  | cons m ms => rfl

theorem lookupF_ok {ty : TypeId} {x i : Operand} {ok : Bool} (hr : lookupF E ty x i ok t h k = some r) : ∃ v, k v = some r ∧ PureOK E (.lookup ty x i ok) t h v := by
  unfold lookupF at hr
  simp only [ob_some, evK_eq, asMap_some] at hr
  obtain ⟨e, he, l, hl, b, hb, hr⟩ := hr
  cases b <;> simp only [reduceCtorEq, asAgg_some, ob_some] at hr
  rename_i es
  obtain ⟨ks, hks, bb, hbb, res, hres, hr⟩ := hr
  obtain ⟨kt, ii, h1, h2, h3, h4⟩ := mapT_some he
  have main : ∀ (ρ : Den) (w : World) (a : Act) (n : Nat) (o : Oper), o.op = .lookup ty x i ok → SigOK E ρ → Rel ρ h.get n w → (∀ y, y ∈ (Op.lookup ty x i ok).operands → VR ρ (ev t y) (a.eval y)) →
      ∃ us ms, VRs ρ ks us ∧ ER ρ es ms ∧ ∀ (res' : Option (Nat × Value)) (z : Value), (zeroValue e).run E.P w = .ok z w ∨ res' ≠ none → (Instr.findAsking kt (.agg us) ms 0).run E.P w = .ok res' w →
        (execOp a.eval o).run E.P w = (match res' with
          | some (_, v) => .ok (.value (if ok then .tuple #[v, .bool true] else v)) w
          | none => .ok (.value (if ok then .tuple #[z, .bool false] else z)) w) := by
    intro ρ w a n o ho hsig hrel hx
    have hx1 := hx x (by simp [Op.operands])
    have hx2 := hx i (by simp [Op.operands])
    rw [hl] at hx1
    rw [hks] at hx2
    generalize hu : a.eval x = u at hx1
    generalize hu2 : a.eval i = u2 at hx2
    cases hx1
    rename_i bl hbl
    cases hx2
    rename_i us g1 g2
    obtain ⟨z, hz, ms, clock, rfl, g3, g4⟩ := hrel.obj l _ bl hb hbl
    refine ⟨us, ms.toList, ⟨g1, g2⟩, ⟨by simpa using g3, fun j p q hp hq => g4 j p q hp (by simpa using hq)⟩, fun res' zz hzz hres' => ?_⟩
    have hck : (Instr.checkKey ms.isEmpty 10000 kt (.agg us)).run E.P w = .ok () w := by
      obtain ⟨p, q, r, p', q', r', rfl, _, _⟩ := three hbb hsig ⟨g1, g2⟩ ⟨g1, g2⟩
      exact checkKey_three 9998 h2 h3 (size_some h4 w).1 _ p q r
    have hgo : (getObj bl).run E.P w = .ok (.map ms clock) w := by
      simp [getObj, Sem.run, hz]
    simp only [execOp, ho, hu, hu2, Instr.lookup, Sem.run_bind, run_underlying h1, Result.andThen_ok, hgo, Sem.run_pure, hck, findKey_run h2, hres']
    cases res' with
    | some q => cases ok <;> simp
    | none =>
      have hzz' := hzz.resolve_right (by simp)
      cases ok <;> simp [hzz']
  cases res with
  | none =>
    simp only [ob_some] at hr
    obtain ⟨z, hz, hr⟩ := hr
    refine ⟨_, hr, fun ρ w a n o ho hsig hrel hx => ?_⟩
    obtain ⟨us, ms, g1, g2, g3⟩ := main ρ w a n o ho hsig hrel hx
    have hf := findK_run (w := w) h2 h3 h4 hsig g1 es ms none 0 g2 hres
    have := g3 none z (.inl (zero_run hz w)) hf
    refine ⟨_, this, ?_⟩
    cases ok
    · exact ofV_vr ρ z
    · refine .tup _ _ rfl fun j a b ha hb => ?_
      match j with
      | 0 => simp at ha hb; subst ha; subst hb; exact ofV_vr ρ z
      | 1 => simp at ha hb; subst ha; subst hb; exact .bool _
      | j + 2 => simp at ha
  | some v =>
    refine ⟨_, hr, fun ρ w a n o ho hsig hrel hx => ?_⟩
    obtain ⟨us, ms, g1, g2, g3⟩ := main ρ w a n o ho hsig hrel hx
    obtain ⟨nn, u, hf, hv⟩ := findK_run (w := w) h2 h3 h4 hsig g1 es ms (some v) 0 g2 hres
    have := g3 (some (nn, u)) default (.inr (by simp)) hf
    refine ⟨_, this, ?_⟩
    cases ok
    · exact hv
    · refine .tup _ _ rfl fun j a b ha hb => ?_
      match j with
      | 0 => simp at ha hb; subst ha; subst hb; exact hv
      | 1 => simp at ha hb; subst ha; subst hb; exact .bool _
      | j + 2 => simp at ha

/-- whatever operation that turns nothing -/
theorem pureF_ok {op : Op} (hr : pureF E op t h k = some r) : ∃ v, k v = some r ∧ PureOK E op t h v := by
  cases op with
  | move x => exact moveF_ok hr
  | assign x => exact assignF_ok hr
  | pick c a b => exact pickF_ok hr
  | load ty a => exact loadF_ok hr
  | nilCheck x => exact nilF_ok hr
  | binOp op ty x y yt => exact binF_ok hr
  | unOp op ty x => exact notF_ok hr
  | convert s d x => exact convF_ok hr
  | makeFunc fn first caps => exact funcF_ok hr
  | build ty ps => exact buildF_ok hr
  | fieldAddr ty x i => exact fieldAddrF_ok hr
  | field ty x i => exact fieldF_ok hr
  | indexAddr ty x i => exact indexAddrF_ok hr
  | index ty x i => exact indexF_ok hr
  | slice ty x lo hi mx => exact sliceF_ok hr
  | lookup ty x i ok => exact lookupF_ok hr
  | extract x i => exact extractF_ok hr
  | call c =>
    obtain ⟨callee, args, tys⟩ := c
    cases callee with
    | value f => cases hr
    | invoke r m => cases hr
    | builtin b =>
      have hr' : builtinF E b args tys t h k = some r := hr
      obtain ⟨args⟩ := args
      obtain ⟨tys⟩ := tys
      cases b with
      | len =>
        rcases args with _ | ⟨x, _ | ⟨y, args⟩⟩
        · cases hr'
        · rcases tys with _ | ⟨ty, _ | ⟨ty', tys⟩⟩
          · cases hr'
          · exact lenF_ok hr'
          · cases hr'
        · cases hr'
      | max =>
        rcases args with _ | ⟨x, _ | ⟨y, _ | ⟨z, args⟩⟩⟩
        · cases hr'
        · cases hr'
        · exact maxF_ok (mx := true) hr'
        · cases hr'
      | min =>
        rcases args with _ | ⟨x, _ | ⟨y, _ | ⟨z, args⟩⟩⟩
        · cases hr'
        · cases hr'
        · exact maxF_ok (mx := false) hr'
        · cases hr'
      | unsafeSliceData =>
        rcases args with _ | ⟨x, _ | ⟨y, args⟩⟩
        · cases hr'
        · exact sliceDataF_ok hr'
        · cases hr'
      | _ => cases hr'
  | _ => cases hr
end
end Go.Proofs.YtgedmmmgkfehjaaGreatDoor
