/- Derivations as trees, and how they lie in the heap: a slice of structs of three cells (Rule, I, Kids). -/
import Derived.Test.YtfpiogaakblpeaaDoorProg
import Derived.WalkKit
import Derived.ProofKit
import Derived.OpenShut
import Derived.Deep.Slices
namespace Go.Proofs.YtfpiogaakblpeaaDoor
open Go.RowKit Go.ChangeShapes Go.WideShapes

inductive DT where
  | node (r i : Int) (ks : List DT)

namespace DT
def rule : DT → Int | node r _ _ => r
def idx : DT → Int | node _ i _ => i
def kids : DT → List DT | node _ _ ks => ks
end DT

def In64 (x : Int) : Prop := -9223372036854775808 ≤ x ∧ x ≤ 9223372036854775807

/-- the slice value v reads as the row ks -/
inductive RepK (w : World) : List DT → Value → Prop
  | nil (a : Option Addr) (c : Nat) : RepK w [] (.slice a 0 c)
  | row (b o c : Nat) (ks : List DT) (kv : Nat → Value) (hn : ks.length ≤ maxLen) (hb : b < w.heap.size)
      (hc : ∀ j r i l, ks[j]? = some (.node r i l) → w.cell? ⟨b, o + j * 3, none⟩ = some (.int .i64 r) ∧ w.cell? ⟨b, o + j * 3 + 1, none⟩ = some (.int .i64 i) ∧ w.cell? ⟨b, o + j * 3 + 2, none⟩ = some (kv j) ∧ In64 r ∧ In64 i)
      (hk : ∀ j r i l, ks[j]? = some (.node r i l) → RepK w l (kv j)) :
      RepK w ks (.slice (some ⟨b, o, none⟩) ks.length c)

theorem RepK.kept {w w' : World} (hb : Below w.heap.size w w') : ∀ {ks : List DT} {v : Value}, RepK w ks v → RepK w' ks v := by
  intro ks v h
  induction h with
  | nil a c => exact .nil a c
  | row b o c ks kv hn h1 hc _ ih =>
    refine .row b o c ks kv hn (Nat.lt_of_lt_of_le h1 hb.size) (fun j r i l h => ?_) ih
    obtain ⟨c0, c1, c2, c3⟩ := hc j r i l h
    exact ⟨by rw [← c0]; exact hb.cell (p := ⟨b, _, none⟩) h1, by rw [← c1]; exact hb.cell (p := ⟨b, _, none⟩) h1, by rw [← c2]; exact hb.cell (p := ⟨b, _, none⟩) h1, c3⟩

theorem RepK.form {w : World} {ks : List DT} {v : Value} (h : RepK w ks v) : ks.length ≤ maxLen ∧ ∃ a c, v = .slice a ks.length c := by
  cases h with
  | nil a c => exact ⟨by simp, a, c, rfl⟩
  | row b o c ks kv hn => exact ⟨hn, _, c, rfl⟩

theorem cellsDeriv : Tryd.prog.cellsOf 24 = 3 := by kernel_rfl

theorem len3 {α : Type} : ∀ {l : List α}, l.length = 3 → ∃ a b c, l = [a, b, c]
  | [a, b, c], _ => ⟨a, b, c, rfl⟩

section
variable {H : Type} {enc : TypeId × Value → H} {w : World} {base : Nat} {sp : Nat → Bool} {held : Bool}

theorem in64_of_wf {n : Int} (h : (Lit.int .i64 n).wf = true) : In64 n := by
  have h2 : IntKind.i64.min ≤ n ∧ n ≤ 9223372036854775807 := by simpa [Lit.wf] using h
  exact ⟨h2.1, h2.2⟩

theorem open_kids {fuel : Nat} (ih : ∀ m, m < fuel → ∀ cs (x : DataW H × List MemPlace), DataW.trod enc Tryd.prog w base sp held m 24 cs = some x → ∃ r i v ks, cs = [.int .i64 r, .int .i64 i, v] ∧ In64 r ∧ In64 i ∧ RepK w ks v)
    {cs : List Value} {x : DataW H × List MemPlace} (h : DataW.trod enc Tryd.prog w base sp held fuel 22 cs = some x) : ∃ v ks, cs = [v] ∧ RepK w ks v := by
  rcases DataW.trod_slice Tryd.underlying22 h with ⟨rfl, _⟩ | ⟨a, len, cap, elems, rest, n, hf, rfl, _, hb, hl, hm, hlen, hel, _, _⟩
  · exact ⟨_, [], rfl, .nil _ _⟩
  · rw [cellsDeriv] at hel
    have key : ∀ j, j < len → ∃ d : DT × Value, ∃ r i l, d.1 = .node r i l ∧ w.cell? (a.add (j * 3)) = some (.int .i64 r) ∧ w.cell? ((a.add (j * 3)).add 1) = some (.int .i64 i) ∧ w.cell? ((a.add (j * 3)).add 2) = some d.2 ∧ In64 r ∧ In64 i ∧ RepK w l d.2 := by
      intro j hj
      have hj2 := hel j hj
      have he : j < elems.length := by omega
      rw [List.getElem?_eq_getElem he] at hj2
      obtain ⟨cs', h1, h2⟩ := Option.bind_eq_some_iff.1 hj2
      obtain ⟨r, i, v, ks, rfl, hr, hi, hk⟩ := ih n (by omega) _ _ h2
      obtain ⟨_, _, hc⟩ := World.cells?_some h1
      refine ⟨(.node r i ks, v), r, i, ks, rfl, ?_, ?_, ?_, hr, hi, hk⟩
      · have := hc 0 (by omega); simpa [Addr.add] using this
      · simpa using hc 1 (by omega)
      · simpa using hc 2 (by omega)
    by_cases h0 : len = 0
    · subst h0
      exact ⟨_, [], rfl, .nil _ _⟩
    have : Inhabited (DT × Value) := ⟨(.node 0 0 [], .bool true)⟩
    obtain ⟨f, hfn⟩ := Deep.choose_lt key
    obtain ⟨b, o, spot⟩ := a
    obtain ⟨_, _, _, _, hc0, _⟩ := hfn 0 (by omega)
    have hspot : spot = none := by simpa [Addr.add] using World.cell?_spot hc0
    subst hspot
    have hlt : b < w.heap.size := by simpa [Addr.add] using World.block_lt_of_cell? _ _ hc0
    refine ⟨_, (List.range len).map fun j => (f j).1, rfl, ?_⟩
    have hrow := RepK.row (w := w) b o cap ((List.range len).map fun j => (f j).1) (fun j => (f j).2) (by simp; omega) hlt
      (fun j r i l hj => ?_) (fun j r i l hj => ?_)
    · simpa using hrow
    · have hj1 : j < len := by
        have := (List.getElem?_eq_some_iff.1 hj).1; simpa using this
      obtain ⟨r', i', l', e, c0, c1, c2, hr, hi, _⟩ := hfn j hj1
      simp [hj1, e] at hj
      obtain ⟨rfl, rfl, rfl⟩ := hj
      simp only [add_plain] at c0 c1 c2
      exact ⟨c0, c1, c2, hr, hi⟩
    · have hj1 : j < len := by
        have := (List.getElem?_eq_some_iff.1 hj).1; simpa using this
      obtain ⟨r', i', l', e, _, _, _, _, _, hk⟩ := hfn j hj1
      simp [hj1, e] at hj
      obtain ⟨rfl, rfl, rfl⟩ := hj
      exact hk

theorem open_deriv : ∀ (fuel : Nat) (cs : List Value) (x : DataW H × List MemPlace), DataW.trod enc Tryd.prog w base sp held fuel 24 cs = some x →
    ∃ r i v ks, cs = [.int .i64 r, .int .i64 i, v] ∧ In64 r ∧ In64 i ∧ RepK w ks v := by
  intro fuel
  induction fuel using Nat.strongRecOn with
  | _ fuel ih =>
    intro cs x h
    obtain ⟨xs, n, hn, hx, hl, hlen, hf⟩ := DataW.trod_struct Tryd.underlying24 h
    have hlen3 : xs.length = 3 := hlen
    have hl3 : cs.length = 3 := by rw [hl, cellsDeriv]
    obtain ⟨c0, c1, c2, rfl⟩  := len3 hl3
    obtain ⟨x0, x1, x2, rfl⟩  := len3 hlen3
    clear hlen hl hlen3 hl3
    have h0 := hf 0 _ rfl
    have h1 := hf 1 _ rfl
    have h2 := hf 2 _ rfl
    have e0 : Tryd.prog.cellsOf 3 = 1 := by kernel_rfl
    have e1 : Tryd.prog.cellsOf 22 = 1 := by kernel_rfl
    simp only [List.getElem_toArray, List.getElem_cons_zero, List.getElem_cons_succ] at h0 h1 h2
    rw [e0] at h0 h1; rw [e1] at h2
    simp only [List.drop_zero, List.drop_succ_cons, List.take_succ_cons, List.take_zero, List.getElem?_cons_zero, List.getElem?_cons_succ] at h0 h1 h2
    obtain ⟨r, hr, _, hr2⟩ := DataW.trod_int Tryd.underlying3 h0
    obtain ⟨i, hi, _, hi2⟩ := DataW.trod_int Tryd.underlying3 h1
    obtain ⟨v, ks, hv, hk⟩ := open_kids (fun m hm => ih m (by omega)) h2
    simp only [List.cons.injEq, and_true] at hr hi hv
    subst hr; subst hi; subst hv
    exact ⟨r, i, _, ks, rfl, in64_of_wf hr2, in64_of_wf hi2, hk⟩
end
end Go.Proofs.YtfpiogaakblpeaaDoor
