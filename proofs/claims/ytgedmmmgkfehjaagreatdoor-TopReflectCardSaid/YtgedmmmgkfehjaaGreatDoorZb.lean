/- What labels stand for: values, objects and worlds; what an operation leaves. -/
import Derived.Test.YtgedmmmgkfehjaaGreatDoorZa
namespace Go.Proofs.YtgedmmmgkfehjaaGreatDoor

/-- the block at a label; the capacity of a row, where it is not written; the given int; labels stand for blocks from base on -/
structure Den where
  at_ : Nat → Option Nat
  cap : Nat → Nat
  sig : Int
  base : Nat

/-- more labels are known -/
structure Den.Le (ρ ρ' : Den) : Prop where
  at_ : ∀ l b, ρ.at_ l = some b → ρ'.at_ l = some b ∧ ρ'.cap l = ρ.cap l
  sig : ρ'.sig = ρ.sig
  base : ρ'.base = ρ.base

theorem Den.Le.refl (ρ : Den) : ρ.Le ρ := ⟨fun _ _ h => ⟨h, rfl⟩, rfl, rfl⟩
theorem Den.Le.trans {a b c : Den} (h : a.Le b) (h' : b.Le c) : a.Le c :=
  ⟨fun l x hx => by
    obtain ⟨h1, h2⟩ := h.at_ l x hx
    obtain ⟨h3, h4⟩ := h'.at_ l x h1
    exact ⟨h3, h4.trans h2⟩, h'.sig.trans h.sig, h'.base.trans h.base⟩

/-- the value over labels x stands for the model's value -/
inductive VR (ρ : Den) : AV → Value → Prop where
  | bad (u : Value) : VR ρ .bad u
  | undef : VR ρ .undef Go.undef
  | bool (b : Bool) : VR ρ (.bool b) (.bool b)
  | int (k : IntKind) (n : Int) : VR ρ (.int k n) (.int k n)
  | sym (c : Int) : VR ρ (.sym c) (.int .i64 (ρ.sig + c))
  | float (k : FloatKind) (n : Nat) : VR ρ (.float k n) (.float k n)
  | str (t : Tr Nat) (o n : Nat) (s : ByteArray) (hn : s.data.toList.length = n) (h : ∀ (i : Nat) (x : UInt8), s.data.toList[i]? = some x → t.get (o + i) = some x.toNat) : VR ρ (.str t o n) (.string s)
  | ptr (l b o : Nat) (h : ρ.at_ l = some b) : VR ρ (.ptr l o) (.pointer (some ⟨b, o, none⟩))
  | pnil : VR ρ .pnil (.pointer none)
  | sl (l b o n c : Nat) (h : ρ.at_ l = some b) (hn : n ≤ c) : VR ρ (.sl l o n (some c)) (.slice (some ⟨b, o, none⟩) n c)
  | slu (l b n : Nat) (h : ρ.at_ l = some b) (hn : n ≤ ρ.cap l) : VR ρ (.sl l 0 n none) (.slice (some ⟨b, 0, none⟩) n (ρ.cap l))
  | snil : VR ρ .snil (.slice none 0 0)
  | map (l b : Nat) (h : ρ.at_ l = some b) : VR ρ (.map l) (.map (some b))
  | mnil : VR ρ .mnil (.map none)
  | func (f : FuncId) (xs : List AV) (us : Array Value) (h1 : xs.length = us.size) (h2 : ∀ (i : Nat) (x : AV) (u : Value), xs[i]? = some x → us[i]? = some u → VR ρ x u) : VR ρ (.func f xs) (.func (.func f) #[] us)
  | nilFunc : VR ρ .nilFunc .nilFunc
  | nilIface : VR ρ .nilIface .nilIface
  | agg (xs : List AV) (us : Array Value) (h1 : xs.length = us.size) (h2 : ∀ (i : Nat) (x : AV) (u : Value), xs[i]? = some x → us[i]? = some u → VR ρ x u) : VR ρ (.agg xs) (.agg us)
  | tup (xs : List AV) (us : Array Value) (h1 : xs.length = us.size) (h2 : ∀ (i : Nat) (x : AV) (u : Value), xs[i]? = some x → us[i]? = some u → VR ρ x u) : VR ρ (.tup xs) (.tuple us)

/-- pointwise -/
def VRs (ρ : Den) (xs : List AV) (us : Array Value) : Prop := xs.length = us.size ∧ ∀ (i : Nat) (x : AV) (u : Value), xs[i]? = some x → us[i]? = some u → VR ρ x u

theorem VR.mono {ρ ρ' : Den} (hr : ρ.Le ρ') {x : AV} {u : Value} (h : VR ρ x u) : VR ρ' x u := by
  induction h with
  | bad u => exact .bad u
  | undef => exact .undef
  | bool b => exact .bool b
  | int k n => exact .int k n
  | sym c => rw [← hr.sig]; exact .sym c
  | float k n => exact .float k n
  | str t o n s hn h => exact .str t o n s hn h
  | ptr l b o h => exact .ptr l b o (hr.at_ l b h).1
  | pnil => exact .pnil
  | sl l b o n c h hn => exact .sl l b o n c (hr.at_ l b h).1 hn
  | slu l b n h hn => rw [← (hr.at_ l b h).2]; exact .slu l b n (hr.at_ l b h).1 (by rw [(hr.at_ l b h).2]; exact hn)
  | snil => exact .snil
  | map l b h => exact .map l b (hr.at_ l b h).1
  | mnil => exact .mnil
  | func f xs us h1 _ ih => exact .func f xs us h1 ih
  | nilFunc => exact .nilFunc
  | nilIface => exact .nilIface
  | agg xs us h1 _ ih => exact .agg xs us h1 ih
  | tup xs us h1 _ ih => exact .tup xs us h1 ih
theorem VRs.mono {ρ ρ' : Den} (hr : ρ.Le ρ') {xs : List AV} {us : Array Value} (h : VRs ρ xs us) : VRs ρ' xs us := ⟨h.1, fun i x u hx hu => (h.2 i x u hx hu).mono hr⟩
theorem VRs.get {ρ : Den} {xs : List AV} {us : Array Value} (h : VRs ρ xs us) {i : Nat} {x : AV} (hx : xs[i]? = some x) : ∃ u, us[i]? = some u ∧ VR ρ x u := by
  have hi : i < us.size := by
    have := (List.getElem?_eq_some_iff.1 hx).1
    have := h.1
    omega
  exact ⟨us[i], Array.getElem?_eq_getElem hi, h.2 i x _ hx (Array.getElem?_eq_getElem hi)⟩
theorem VRs.nil (ρ : Den) : VRs ρ [] #[] := ⟨rfl, fun i x u h => by simp at h⟩

/-- the object over labels stands for the model's -/
def OR (ρ : Den) (l : Nat) (o : AO) (b : Obj) : Prop :=
  match o with
  | .cells c n e => ∃ cs, b = .cells cs e (0, 0) ∧ cs.size = n ∧ ∀ (i : Nat) (v : AV), i < n → c.get i = some v → ∃ u, cs[i]? = some u ∧ VR ρ v u
  | .row c n z e => ∃ cs, b = .cells cs e (0, 0) ∧ cs.size = ρ.cap l * z ∧ n ≤ cs.size ∧ 0 < z ∧ ∀ (i : Nat) (v : AV), i < n → c.get i = some v → ∃ u, cs[i]? = some u ∧ VR ρ v u
  | .map es => ∃ ms clock, b = .map ms clock ∧ es.length = ms.size ∧ ∀ (i : Nat) (p : AV × AV) (e : MapEntry), es[i]? = some p → ms[i]? = some e → VR ρ p.1 e.key ∧ VR ρ p.2 e.val

theorem OR.mono {ρ ρ' : Den} (hr : ρ.Le ρ') {l : Nat} {x : Nat} (hl : ρ.at_ l = some x) {o : AO} {b : Obj} (h : OR ρ l o b) : OR ρ' l o b := by
  cases o with
  | cells c n e =>
    obtain ⟨cs, h1, h2, h3⟩ := h
    exact ⟨cs, h1, h2, fun i v hi hv => let ⟨u, hu, hvr⟩ := h3 i v hi hv; ⟨u, hu, hvr.mono hr⟩⟩
  | row c n z e =>
    obtain ⟨cs, h1, h2, h4, h5, h3⟩ := h
    exact ⟨cs, h1, by rw [(hr.at_ l x hl).2]; exact h2, h4, h5, fun i v hi hv => let ⟨u, hu, hvr⟩ := h3 i v hi hv; ⟨u, hu, hvr.mono hr⟩⟩
  | map es =>
    obtain ⟨ms, clock, h1, h2, h3⟩ := h
    exact ⟨ms, clock, h1, h2, fun i p e hp he => ⟨(h3 i p e hp he).1.mono hr, (h3 i p e hp he).2.mono hr⟩⟩

abbrev Hf := Nat → Option AO

structure Rel (ρ : Den) (h : Hf) (n : Nat) (w : World) : Prop where
  floor : ρ.base ≤ w.heap.size
  dom : ∀ l b, ρ.at_ l = some b → ρ.base ≤ b ∧ b < w.heap.size ∧ l < n
  obj : ∀ l o b, h l = some o → ρ.at_ l = some b → ∃ x, w.heap[b]? = some x ∧ OR ρ l o x
  inj : ∀ l l' b o o', ρ.at_ l = some b → ρ.at_ l' = some b → h l = some o → h l' = some o' → l = l'

/-- what comes: from the labels of ρ over h to those of ρ' over h' -/
structure Post (ρ : Den) (h : Hf) (n : Nat) (w : World) (ρ' : Den) (h' : Hf) (n' : Nat) (w' : World) : Prop where
  le : ρ.Le ρ'
  rel : Rel ρ' h' n' w'
  mono : n ≤ n'
  pend : ∀ l, l < n → ρ.at_ l = none → ρ'.at_ l = none ∧ h' l = h l
  old : ∀ l, l < n → h l = none → h' l = none
  fresh : ∀ l b, ρ'.at_ l = some b → ρ.at_ l = some b ∨ w.heap.size ≤ b ∨ ∃ l0 o, h l0 = some o ∧ ρ.at_ l0 = some b
  frame : ∀ b, b < w.heap.size → (∀ l o, h l = some o → ρ.at_ l ≠ some b) → w'.heap[b]? = w.heap[b]?
  size : w.heap.size ≤ w'.heap.size
  os : w'.os = w.os
  tape : w'.tape = w.tape
  output : w'.output = w.output

theorem Post.refl {ρ : Den} {h : Hf} {n : Nat} {w : World} (hr : Rel ρ h n w) : Post ρ h n w ρ h n w :=
  ⟨.refl ρ, hr, Nat.le_refl _, fun _ _ hl => ⟨hl, rfl⟩, fun _ _ hl => hl, fun _ _ hl => .inl hl, fun _ _ _ => rfl, Nat.le_refl _, rfl, rfl, rfl⟩

theorem Post.trans {ρ ρ1 ρ2 : Den} {h h1 h2 : Hf} {n n1 n2 : Nat} {w w1 w2 : World} (hr : Rel ρ h n w) (p : Post ρ h n w ρ1 h1 n1 w1) (q : Post ρ1 h1 n1 w1 ρ2 h2 n2 w2) : Post ρ h n w ρ2 h2 n2 w2 := by
  have key : ∀ l1 b o1, h1 l1 = some o1 → ρ1.at_ l1 = some b → b < w.heap.size → ∃ l0 o, h l0 = some o ∧ ρ.at_ l0 = some b := by
    intro l1 b o1 hh hb hlt
    rcases p.fresh l1 b hb with h3 | h3 | h3
    · have hl := (hr.dom l1 b h3).2.2
      cases h4 : h l1 with
      | none => rw [p.old l1 hl h4] at hh; cases hh
      | some o => exact ⟨l1, o, h4, h3⟩
    · omega
    · exact h3
  refine ⟨p.le.trans q.le, q.rel, Nat.le_trans p.mono q.mono, ?_, ?_, ?_, ?_, Nat.le_trans p.size q.size, q.os.trans p.os, q.tape.trans p.tape, q.output.trans p.output⟩
  · intro l hl hn
    obtain ⟨h3, h4⟩ := p.pend l hl hn
    obtain ⟨h5, h6⟩ := q.pend l (Nat.lt_of_lt_of_le hl p.mono) h3
    exact ⟨h5, h6.trans h4⟩
  · intro l hl hn
    exact q.old l (Nat.lt_of_lt_of_le hl p.mono) (p.old l hl hn)
  · intro l b hb
    rcases q.fresh l b hb with h3 | h3 | ⟨l0, o, h3, h4⟩
    · exact p.fresh l b h3
    · exact .inr (.inl (Nat.le_trans p.size h3))
    · rcases Nat.lt_or_ge b w.heap.size with hlt | hge
      · exact .inr (.inr (key l0 b o h3 h4 hlt))
      · exact .inr (.inl hge)
  · intro b hb hno
    rw [q.frame b (Nat.lt_of_lt_of_le hb p.size) ?_, p.frame b hb hno]
    intro l o hl hρ
    obtain ⟨l0, o0, h3, h4⟩ := key l b o hl hρ hb
    exact hno l0 o0 h3 h4

/-- a part of what is known -/
def Sub (h h' : Hf) : Prop := ∀ l o, h l = some o → h' l = some o
theorem Sub.refl (h : Hf) : Sub h h := fun _ _ h => h
theorem Sub.trans {a b c : Hf} (h : Sub a b) (h' : Sub b c) : Sub a c := fun l o hl => h' l o (h l o hl)
theorem Rel.sub {ρ : Den} {h h' : Hf} {n : Nat} {w : World} (hs : Sub h h') (hr : Rel ρ h' n w) : Rel ρ h n w :=
  ⟨hr.floor, hr.dom, fun l o b hl hb => hr.obj l o b (hs l o hl) hb, fun l l' b o o' hl hl' ho ho' => hr.inj l l' b o o' hl hl' (hs _ _ ho) (hs _ _ ho')⟩
theorem Rel.drew {ρ : Den} {h : Hf} {n : Nat} {w : World} (hr : Rel ρ h n w) : Rel ρ h n { w with drawn := w.drawn + 1 } := ⟨hr.floor, hr.dom, hr.obj, hr.inj⟩
theorem Post.drew {ρ : Den} {h : Hf} {n : Nat} {w : World} (hr : Rel ρ h n w) : Post ρ h n w ρ h n { w with drawn := w.drawn + 1 } :=
  ⟨.refl ρ, hr.drew, Nat.le_refl _, fun _ _ hl => ⟨hl, rfl⟩, fun _ _ hl => hl, fun _ _ hl => .inl hl, fun _ _ _ => rfl, Nat.le_refl _, rfl, rfl, rfl⟩

/-- the slots of a frame -/
def TR (ρ : Den) (t : Tm) (a : Array Value) : Prop := ∀ i v, t.get i = some v → VR ρ v (a.getD i undef)
theorem TR.mono {ρ ρ' : Den} (hr : ρ.Le ρ') {t : Tm} {a : Array Value} (h : TR ρ t a) : TR ρ' t a := fun i v hv => (h i v hv).mono hr
/-- deferred calls -/
inductive DR (ρ : Den) : Ds → List Deferred → Prop where
  | nil : DR ρ [] []
  | cons (f : FuncId) (xs : List AV) (us cap : Array Value) (ds : Ds) (es : List Deferred) (h : VRs ρ xs (us ++ cap)) (h2 : DR ρ ds es) : DR ρ ((f, xs) :: ds) ({ target := .fn (.func f) cap, args := us } :: es)
theorem DR.mono {ρ ρ' : Den} (hr : ρ.Le ρ') {ds : Ds} {es : List Deferred} (h : DR ρ ds es) : DR ρ' ds es := by
  induction h with
  | nil => exact .nil
  | cons f xs us cap ds es h _ ih => exact .cons f xs us cap ds es (h.mono hr) ih
end Go.Proofs.YtgedmmmgkfehjaaGreatDoor
