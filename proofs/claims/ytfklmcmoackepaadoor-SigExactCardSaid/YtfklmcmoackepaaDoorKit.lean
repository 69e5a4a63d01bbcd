/- Small general laws: a slice that is only read; append of such a slice to an owned one. Over any program. -/
import Derived.WalkKit
import Derived.WalkSpells
import Derived.WalkLawsBesides
import Derived.Laws.AppendOwnNone
import Derived.Lib.Hide
namespace Go.Proofs.YtfklmcmoackepaaDoor
open Go.RowKit

/-- the slice value v of n elements, size cells each, reads as the cells xs -/
def Has (w : World) (size : Nat) (v : Value) (n : Nat) (xs : List Value) : Prop :=
  xs.length = n * size ∧ ((v = .slice none 0 0 ∧ n = 0) ∨ ∃ b o c, v = .slice (some ⟨b, o, none⟩) n c ∧ n ≤ maxLen ∧ b < w.heap.size ∧ ∀ j, j < n * size → w.cell? ⟨b, o + j, none⟩ = xs[j]?)

theorem Has.of_owns {w : World} {base : Nat} {e : TypeId} {size : Nat} {v : Value} {n : Nat} {xs : List Value} (h : w.ownsRow base e size v n xs) : Has w size v n xs := by
  refine ⟨h.1, ?_⟩
  rcases h.2 with h2 | ⟨g, cap, cur, rfl, hg, hh, hn, hc, hr⟩
  · exact .inl h2
  · refine .inr ⟨g, 0, cap, rfl, by omega, ?_, fun j hj => ?_⟩
    · have := Array.getElem?_eq_some_iff.1 hh; exact this.1
    · simpa using h.cellAt j hj

theorem Has.below {w w' : World} {size : Nat} {v : Value} {n : Nat} {xs : List Value} (h : Has w size v n xs) (hb : Below w.heap.size w w') : Has w' size v n xs := by
  refine ⟨h.1, ?_⟩
  rcases h.2 with h2 | ⟨b, o, c, rfl, hn, hb1, hc⟩
  · exact .inl h2
  · exact .inr ⟨b, o, c, rfl, hn, Nat.lt_of_lt_of_le hb1 hb.size, fun j hj => by rw [← hc j hj]; exact hb.cell (p := ⟨b, o + j, none⟩) hb1⟩

theorem Has.nil (w : World) (size : Nat) : Has w size (.slice none 0 0) 0 [] := ⟨by simp, .inl ⟨rfl, rfl⟩⟩

/-- append(own, src...): own is the call's own, src is whatever can be read -/
theorem run_append_has {P : Program} {w : World} (base : Nat) (t ty e : TypeId) (i : TypeInfo) (z : Value) (size bytes : Nat) (ht : P.underlying t = some (.slice e)) (hi : P.info? e = some i) (hz : i.zero = some z)
    (hsize : i.size = size) (hby : i.bytes = bytes) (hzs : z.cells.size = size) (hsz : 0 < size)
    (v : Value) (n : Nat) (xs : List Value) (hown : w.ownsRow base e size v n xs)
    (sv : Value) (m : Nat) (news : List Value) (hhas : Has w size sv m news) (h1 : ∀ u ∈ news, u.oneCell' = true)
    (h63 : n + m ≤ maxLen) (hbytes : (n + m) * bytes ≤ 140737488355328) (hbase : base ≤ w.heap.size) :
    ∃ v' w', (Builtin.append_ #[t, t] ty #[v, sv]).run P w = .ok v' w' ∧ w'.ownsRow base e size v' (n + m) (xs ++ news) ∧ w.grownBy w' v.ownBlock ∧
      (v' = .slice none 0 0 ↔ v = .slice none 0 0 ∧ m = 0) := by
  obtain ⟨hl, ⟨rfl, rfl⟩ | ⟨b, o, c, rfl, hn, hb, hc⟩⟩ := hhas
  · have hx : news = [] := List.eq_nil_of_length_eq_zero (by simpa using hl)
    subst hx
    refine ⟨v, w, run_append_owned_none w base t ty e i size ht hi v n xs hown, ?_, World.grownBy.refl _ _, by simp⟩
    simpa using hown
  · refine run_append_own (P := P) w base t ty e i z size bytes ht hi hz hsize hby hzs hsz v n xs hown ⟨b, o, none⟩ m c news hl ?_ h1 h63 hbytes hbase
    intro j u hu
    have hj : j < m * size := by rw [← hl]; exact (List.getElem?_eq_some_iff.1 hu).1
    have := hc j hj
    rw [hu] at this
    rw [Addr.add_lit]; exact this

theorem wpList_append_has {P : Program} {w : World} {ops : Array Oper} {rest : List Oper} {o : Oper} {a : Act} {Q : Exit → Act → World → Prop} (hgd : o.guard = none) (s x : Operand) (t : TypeId)
    (ho : o.op = .call { callee := .builtin .append, args := #[s, x], argTypes := #[t, t] })
    (base : Nat) (e : TypeId) (i : TypeInfo) (z : Value) (size bytes : Nat) (ht : P.underlying t = some (.slice e)) (hi : P.info? e = some i) (hz : i.zero = some z)
    (hsize : i.size = size) (hby : i.bytes = bytes) (hzs : z.cells.size = size) (hsz : 0 < size)
    (v : Value) (n : Nat) (xs : List Value) (hs : a.eval s = v) (hown : w.ownsRow base e size v n xs)
    (sv : Value) (m : Nat) (news : List Value) (hx : a.eval x = sv) (hhas : Has w size sv m news) (h1 : ∀ u ∈ news, u.oneCell' = true)
    (h63 : n + m ≤ maxLen) (hbytes : (n + m) * bytes ≤ 140737488355328) (hbase : base ≤ w.heap.size)
    (h : ∀ v' w', w'.ownsRow base e size v' (n + m) (xs ++ news) → w.grownBy w' v.ownBlock → wpList P ops Q rest (a.put o.dst v') w') : wpList P ops Q (o :: rest) a w := by
  refine wpList_plain hgd fun K hK => ?_
  obtain ⟨v', w', hr, h2, h3, h4⟩ := run_append_has (P := P) (w := w) base t o.type e i z size bytes ht hi hz hsize hby hzs hsz v n xs hown sv m news hhas h1 h63 hbytes hbase
  unfold Oper.wp execOp
  simp only [ho, resolve, invoke, builtin, Sem.run_bind, Sem.run_pure, Result.andThen_ok, List.map_toArray, List.map_cons, List.map_nil, hs, hx, hr]
  exact hK _ _ (h v' w' h2 h3)

theorem str_append (a b : List UInt8) : (⟨a.toArray⟩ : ByteArray) ++ ⟨b.toArray⟩ = ⟨(a ++ b).toArray⟩ := by
  apply ByteArray.ext
  simp

def byteCell (c : UInt8) : Value := .int .u8 c.toNat

theorem foldl_push (l : List UInt8) : ∀ s : ByteArray, (l.map fun c => (c.toNat : Int)).foldl (fun r n => r.push (UInt8.ofNat n.toNat)) s = ⟨s.data ++ l.toArray⟩ := by
  induction l with
  | nil => intro s; simp
  | cons c l ih =>
    intro s
    simp only [List.map_cons, List.foldl_cons]
    rw [ih]
    simp [ByteArray.push]

/-- string(b) -/
theorem run_convert_has {P : Program} {w : World} (src dst e : TypeId) (v : Value) (n : Nat) (l : List UInt8)
    (hs : P.underlying src = some (.slice e)) (he : P.underlying e = some (.int .u8)) (hd : P.underlying dst = some .string) (h : Has w 1 v n (l.map byteCell)) :
    (convert src dst v).run P w = .ok (.string ⟨l.toArray⟩) w := by
  obtain ⟨hl, ⟨rfl, rfl⟩ | ⟨b, o, c, rfl, hn, hb, hc⟩⟩ := h
  · have : l = [] := by simpa using hl
    subst this
    rw [run_convert_bytes_string w src dst e none 0 0 hs he hd]
    rfl
  · rw [run_convert_bytes_string w src dst e _ _ _ hs he hd]
    have hl' : l.length = n := by simpa using hl
    have := run_bytesToString (P := P) w ⟨b, o, none⟩ n c (l.map fun c => (c.toNat : Int)) (by
      have hr := run_loadCells_list (P := P) (w := w) ⟨b, o, none⟩ (l.map byteCell) (fun j v hv => by
        have hj : j < n * 1 := by
          have := (List.getElem?_eq_some_iff.1 hv).1
          simpa [hl'] using this
        rw [Addr.add_lit, hc j hj, hv])
      rw [List.length_map, hl'] at hr
      rw [hr]
      simp [byteCell, Function.comp_def])
    rw [this, foldl_push]
    have e0 : ByteArray.empty.data = #[] := rfl
    rw [e0, Array.empty_append]

end Go.Proofs.YtfklmcmoackepaaDoor
