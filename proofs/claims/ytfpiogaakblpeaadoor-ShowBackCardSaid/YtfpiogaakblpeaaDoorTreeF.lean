/- Files in the heap: a context's slice, then a derivation's three cells. -/
import Derived.Test.YtfpiogaakblpeaaDoorTree
namespace Go.Proofs.YtfpiogaakblpeaaDoor
open Go.RowKit Go.ChangeShapes Go.WideShapes

theorem cellsFile : Tryd.prog.cellsOf 26 = 4 := by kernel_rfl
theorem len4 {α : Type} : ∀ {l : List α}, l.length = 4 → ∃ a b c d, l = [a, b, c, d]
  | [a, b, c, d], _ => ⟨a, b, c, d, rfl⟩
theorem len2 {α : Type} : ∀ {l : List α}, l.length = 2 → ∃ a b, l = [a, b]
  | [a, b], _ => ⟨a, b, rfl⟩

section
variable {H : Type} {enc : TypeId × Value → H} {w : World} {base : Nat} {sp : Nat → Bool} {held : Bool}
theorem open_file {fuel : Nat} {cs : List Value} {x : DataW H × List MemPlace} (h : DataW.trod enc Tryd.prog w base sp held fuel 26 cs = some x) :
    ∃ cv ctx r i v ks, cs = [cv, .int .i64 r, .int .i64 i, v] ∧ RepK w ctx cv ∧ In64 r ∧ In64 i ∧ RepK w ks v := by
  obtain ⟨xs, n, hn, hx, hl, hlen, hf⟩ := DataW.trod_struct Tryd.underlying26 h
  have hlen2 : xs.length = 2 := hlen
  have hl4 : cs.length = 4 := by rw [hl, cellsFile]
  obtain ⟨c0, c1, c2, c3, rfl⟩ := len4 hl4
  obtain ⟨x0, x1, rfl⟩ := len2 hlen2
  clear hlen hl hlen2 hl4
  have h0 := hf 0 _ rfl
  have h1 := hf 1 _ rfl
  have e0 : Tryd.prog.cellsOf 22 = 1 := by kernel_rfl
  simp only [List.getElem_toArray, List.getElem_cons_zero, List.getElem_cons_succ] at h0 h1
  rw [e0] at h0; rw [cellsDeriv] at h1
  simp only [List.drop_zero, List.drop_succ_cons, List.take_succ_cons, List.take_zero, List.getElem?_cons_zero, List.getElem?_cons_succ] at h0 h1
  obtain ⟨cv, ctx, hcv, hctx⟩ := open_kids (fun m _ => open_deriv m) h0
  obtain ⟨r, i, v, ks, hd, hr, hi, hk⟩ := open_deriv _ _ _ h1
  simp only [List.cons.injEq, and_true] at hcv hd
  obtain ⟨rfl, rfl, rfl⟩ := hd
  subst hcv
  exact ⟨_, ctx, r, i, _, ks, rfl, hctx, hr, hi, hk⟩
end
end Go.Proofs.YtfpiogaakblpeaaDoor
