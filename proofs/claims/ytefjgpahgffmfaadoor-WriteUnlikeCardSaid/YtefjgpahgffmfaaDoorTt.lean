/- Terms as trees, and how they lie in the heap: a slice of structs of five cells (Kind, I, J, N, Kids). -/
import Derived.Test.YtefjgpahgffmfaaDoorProg
import Derived.WalkKit
import Derived.ProofKit
import Derived.OpenShut
import Derived.Deep.Slices
import Derived.Lib.Hide
namespace Go.Proofs.YtefjgpahgffmfaaDoor
open Go.RowKit Go.ChangeShapes Go.WideShapes

inductive TT where
  | node (k i j n : Int) (ks : List TT)

def In64 (x : Int) : Prop := -9223372036854775808 ≤ x ∧ x ≤ 9223372036854775807

/-- the slice value v reads as the row ks -/
inductive RepT (w : World) : List TT → Value → Prop
  | nil (a : Option Addr) (c : Nat) : RepT w [] (.slice a 0 c)
  | row (b o c : Nat) (ks : List TT) (kv : Nat → Value) (hn : ks.length ≤ maxLen) (hb : b < w.heap.size)
      (hc : ∀ x k i j n l, ks[x]? = some (.node k i j n l) → w.cell? ⟨b, o + x * 5, none⟩ = some (.int .i64 k) ∧ w.cell? ⟨b, o + x * 5 + 1, none⟩ = some (.int .i64 i) ∧ w.cell? ⟨b, o + x * 5 + 2, none⟩ = some (.int .i64 j) ∧ w.cell? ⟨b, o + x * 5 + 3, none⟩ = some (.int .i64 n) ∧ w.cell? ⟨b, o + x * 5 + 4, none⟩ = some (kv x) ∧ In64 k ∧ In64 i ∧ In64 j ∧ In64 n)
      (hk : ∀ x k i j n l, ks[x]? = some (.node k i j n l) → RepT w l (kv x)) :
      RepT w ks (.slice (some ⟨b, o, none⟩) ks.length c)

theorem RepT.kept {w w' : World} (hb : Below w.heap.size w w') : ∀ {ks : List TT} {v : Value}, RepT w ks v → RepT w' ks v := by
  intro ks v h
  induction h with
  | nil a c => exact .nil a c
  | row b o c ks kv hn h1 hc _ ih =>
    refine .row b o c ks kv hn (Nat.lt_of_lt_of_le h1 hb.size) (fun x k i j n l h => ?_) ih
    obtain ⟨c0, c1, c2, c3, c4, c5⟩ := hc x k i j n l h
    exact ⟨by rw [← c0]; exact hb.cell (p := ⟨b, _, none⟩) h1, by rw [← c1]; exact hb.cell (p := ⟨b, _, none⟩) h1, by rw [← c2]; exact hb.cell (p := ⟨b, _, none⟩) h1, by rw [← c3]; exact hb.cell (p := ⟨b, _, none⟩) h1, by rw [← c4]; exact hb.cell (p := ⟨b, _, none⟩) h1, c5⟩

theorem RepT.form {w : World} {ks : List TT} {v : Value} (h : RepT w ks v) : ks.length ≤ maxLen ∧ ∃ a c, v = .slice a ks.length c := by
  cases h with
  | nil a c => exact ⟨by simp, a, c, rfl⟩
  | row b o c ks kv hn => exact ⟨hn, _, c, rfl⟩

/-- element x of a row that can be read -/
theorem RepT.at {w : World} {ks : List TT} {a : Option Addr} {m c : Nat} (h : RepT w ks (.slice a m c)) (x : Nat) (hx : x < ks.length) :
    ∃ (b o : Nat) (k i j n : Int) (l : List TT) (v : Value), a = some ⟨b, o, none⟩ ∧ m = ks.length ∧ b < w.heap.size ∧ ks[x]? = some (.node k i j n l) ∧ w.cell? ⟨b, o + x * 5, none⟩ = some (.int .i64 k) ∧ w.cell? ⟨b, o + x * 5 + 1, none⟩ = some (.int .i64 i) ∧ w.cell? ⟨b, o + x * 5 + 2, none⟩ = some (.int .i64 j) ∧ w.cell? ⟨b, o + x * 5 + 3, none⟩ = some (.int .i64 n) ∧ w.cell? ⟨b, o + x * 5 + 4, none⟩ = some v ∧ (In64 k ∧ In64 i ∧ In64 j ∧ In64 n) ∧ RepT w l v := by
  cases h with
  | nil => simp at hx
  | row b o c ks kv hn hb hc hk =>
    cases hq : ks[x] with
    | node k i j n l =>
      have he : ks[x]? = some (.node k i j n l) := by rw [List.getElem?_eq_getElem hx, hq]
      obtain ⟨c0, c1, c2, c3, c4, c5⟩ := hc x k i j n l he
      exact ⟨b, o, k, i, j, n, l, kv x, rfl, rfl, hb, he, c0, c1, c2, c3, c4, c5, hk x k i j n l he⟩

theorem cellsTerm : Tryd.prog.cellsOf 24 = 5 := by kernel_rfl
theorem len5 {α : Type} : ∀ {l : List α}, l.length = 5 → ∃ a b c d e, l = [a, b, c, d, e]
  | [a, b, c, d, e], _ => ⟨a, b, c, d, e, rfl⟩

section
variable {H : Type} {enc : TypeId × Value → H} {w : World} {base : Nat} {sp : Nat → Bool} {held : Bool}

theorem in64_of_wf {n : Int} (h : (Lit.int .i64 n).wf = true) : In64 n := by
  have h2 : IntKind.i64.min ≤ n ∧ n ≤ 9223372036854775807 := by simpa [Lit.wf] using h
  exact ⟨h2.1, h2.2⟩

theorem open_terms {fuel : Nat} (ih : ∀ m, m < fuel → ∀ cs (x : DataW H × List MemPlace), DataW.trod enc Tryd.prog w base sp held m 24 cs = some x → ∃ k i j n v ks, cs = [.int .i64 k, .int .i64 i, .int .i64 j, .int .i64 n, v] ∧ (In64 k ∧ In64 i ∧ In64 j ∧ In64 n) ∧ RepT w ks v)
    {cs : List Value} {x : DataW H × List MemPlace} (h : DataW.trod enc Tryd.prog w base sp held fuel 22 cs = some x) : ∃ v ks, cs = [v] ∧ RepT w ks v := by
  rcases DataW.trod_slice Tryd.underlying22 h with ⟨rfl, _⟩ | ⟨a, len, cap, elems, rest, n, hf, rfl, _, hb, hl, hm, hlen, hel, _, _⟩
  · exact ⟨_, [], rfl, .nil _ _⟩
  · rw [cellsTerm] at hel
    have key : ∀ x, x < len → ∃ d : TT × Value, ∃ k i j n l, d.1 = .node k i j n l ∧ w.cell? (a.add (x * 5)) = some (.int .i64 k) ∧ w.cell? ((a.add (x * 5)).add 1) = some (.int .i64 i) ∧ w.cell? ((a.add (x * 5)).add 2) = some (.int .i64 j) ∧ w.cell? ((a.add (x * 5)).add 3) = some (.int .i64 n) ∧ w.cell? ((a.add (x * 5)).add 4) = some d.2 ∧ (In64 k ∧ In64 i ∧ In64 j ∧ In64 n) ∧ RepT w l d.2 := by
      intro x hx
      have hj2 := hel x hx
      have he : x < elems.length := by omega
      rw [List.getElem?_eq_getElem he] at hj2
      obtain ⟨cs', h1, h2⟩ := Option.bind_eq_some_iff.1 hj2
      obtain ⟨k, i, j, n, v, ks, rfl, hr, hk⟩ := ih n (by omega) _ _ h2
      obtain ⟨_, _, hc⟩ := World.cells?_some h1
      refine ⟨(.node k i j n ks, v), k, i, j, n, ks, rfl, ?_, ?_, ?_, ?_, ?_, hr, hk⟩
      · have := hc 0 (by omega); simpa [Addr.add] using this
      · simpa using hc 1 (by omega)
      · simpa using hc 2 (by omega)
      · simpa using hc 3 (by omega)
      · simpa using hc 4 (by omega)
    by_cases h0 : len = 0
    · subst h0
      exact ⟨_, [], rfl, .nil _ _⟩
    have : Inhabited (TT × Value) := ⟨(.node 0 0 0 0 [], .bool true)⟩
    obtain ⟨f, hfn⟩ := Deep.choose_lt key
    obtain ⟨b, o, spot⟩ := a
    obtain ⟨_, _, _, _, _, _, hc0, _⟩ := hfn 0 (by omega)
    have hspot : spot = none := by simpa [Addr.add] using World.cell?_spot hc0
    subst hspot
    have hlt : b < w.heap.size := by simpa [Addr.add] using World.block_lt_of_cell? _ _ hc0
    refine ⟨_, (List.range len).map fun x => (f x).1, rfl, ?_⟩
    have hrow := RepT.row (w := w) b o cap ((List.range len).map fun x => (f x).1) (fun x => (f x).2) (by simp; omega) hlt
      (fun x k i j n l hj => ?_) (fun x k i j n l hj => ?_)
    · simpa using hrow
    · have hj1 : x < len := by
        have := (List.getElem?_eq_some_iff.1 hj).1; simpa using this
      obtain ⟨k', i', j', n', l', e, c0, c1, c2, c3, c4, hr, _⟩ := hfn x hj1
      simp [hj1, e] at hj
      obtain ⟨rfl, rfl, rfl, rfl, rfl⟩ := hj
      simp only [add_plain] at c0 c1 c2 c3 c4
      exact ⟨c0, c1, c2, c3, c4, hr⟩
    · have hj1 : x < len := by
        have := (List.getElem?_eq_some_iff.1 hj).1; simpa using this
      obtain ⟨k', i', j', n', l', e, _, _, _, _, _, _, hk⟩ := hfn x hj1
      simp [hj1, e] at hj
      obtain ⟨rfl, rfl, rfl, rfl, rfl⟩ := hj
      exact hk

theorem open_term : ∀ (fuel : Nat) (cs : List Value) (x : DataW H × List MemPlace), DataW.trod enc Tryd.prog w base sp held fuel 24 cs = some x →
    ∃ k i j n v ks, cs = [.int .i64 k, .int .i64 i, .int .i64 j, .int .i64 n, v] ∧ (In64 k ∧ In64 i ∧ In64 j ∧ In64 n) ∧ RepT w ks v := by
  intro fuel
  induction fuel using Nat.strongRecOn with
  | _ fuel ih =>
    intro cs x h
    obtain ⟨xs, n, hn, hx, hl, hlen, hf⟩ := DataW.trod_struct Tryd.underlying24 h
    have hlen5 : xs.length = 5 := hlen
    have hl5 : cs.length = 5 := by rw [hl, cellsTerm]
    obtain ⟨c0, c1, c2, c3, c4, rfl⟩  := len5 hl5
    obtain ⟨x0, x1, x2, x3, x4, rfl⟩  := len5 hlen5
    clear hlen hl hlen5 hl5
    have h0 := hf 0 _ rfl
    have h1 := hf 1 _ rfl
    have h2 := hf 2 _ rfl
    have h3 := hf 3 _ rfl
    have h4 := hf 4 _ rfl
    have e0 : Tryd.prog.cellsOf 3 = 1 := by kernel_rfl
    have e1 : Tryd.prog.cellsOf 22 = 1 := by kernel_rfl
    simp only [List.getElem_toArray, List.getElem_cons_zero, List.getElem_cons_succ] at h0 h1 h2 h3 h4
    rw [e0] at h0 h1 h2 h3; rw [e1] at h4
    simp only [List.drop_zero, List.drop_succ_cons, List.take_succ_cons, List.take_zero, List.getElem?_cons_zero, List.getElem?_cons_succ] at h0 h1 h2 h3 h4
    obtain ⟨k, hk0, _, hk2⟩ := DataW.trod_int Tryd.underlying3 h0
    obtain ⟨i, hi, _, hi2⟩ := DataW.trod_int Tryd.underlying3 h1
    obtain ⟨j, hj, _, hj2⟩ := DataW.trod_int Tryd.underlying3 h2
    obtain ⟨m, hm, _, hm2⟩ := DataW.trod_int Tryd.underlying3 h3
    obtain ⟨v, ks, hv, hk⟩ := open_terms (fun m hm => ih m (by omega)) h4
    simp only [List.cons.injEq, and_true] at hk0 hi hj hm hv
    subst hk0; subst hi; subst hj; subst hm; subst hv
    exact ⟨k, i, j, m, _, ks, rfl, ⟨in64_of_wf hk2, in64_of_wf hi2, in64_of_wf hj2, in64_of_wf hm2⟩, hk⟩
end

def termV (k i j n : Int) (v : Value) : Value := .agg #[.int .i64 k, .int .i64 i, .int .i64 j, .int .i64 n, v]

theorem TT.lt {ks : List TT} {x : Nat} {t : TT} (h : ks[x]? = some t) (k i j n : Int) : SizeOf.sizeOf t < SizeOf.sizeOf (TT.node k i j n ks) := by
  have := List.sizeOf_lt_of_mem (List.mem_of_getElem? h)
  simp; omega
theorem box_cell {w wr : World} {cs : Array Value} {t : TypeId} (hb : Below (w.heap.size + 1) (w.alloc (.cells cs t)) wr) (k : Nat) (hk : k < cs.size) : wr.cell? ⟨w.heap.size, k, none⟩ = cs[k]? := by
  rw [hb.cell (p := ⟨w.heap.size, k, none⟩) (by simp)]
  have hh : (w.alloc (.cells cs t)).heap[w.heap.size]? = some (.cells cs t) := by unfold World.alloc; simp
  unfold World.cell?
  simp only [hh]; simp
theorem below_of_box {w wr : World} {o : Obj} (hb : Below (w.heap.size + 1) (w.alloc o) wr) : Below w.heap.size w wr :=
  ((Below.refl _ w).alloc (Nat.le_refl _) o).trans (hb.mono (Nat.le_succ _))
theorem below_alloc (w : World) (o : Obj) : Below w.heap.size w (w.alloc o) := (Below.refl _ _).alloc (Nat.le_refl _) _
theorem new_heap (w : World) (cs : Array Value) (t : TypeId) : (w.alloc (.cells cs t)).heap[w.heap.size]? = some (.cells cs t (0, 0)) := by unfold World.alloc; simp
end Go.Proofs.YtefjgpahgffmfaaDoor
