/- Terms as trees, and how they lie in the heap: a slice of structs of five cells (Kind, I, J, N, Kids). A region that draws its order, whose operations read what stays and whose callees make memory only: one walk in the text's order, over a family of worlds. Over any program. Walks of transhipkeep.weigh, Great. Walks of transhipkeep.Same, Terms. -/
import Derived.Test.YtfklmcmoackepaaDoorProg
import Derived.WalkKit
import Derived.ProofKit
import Derived.OpenShut
import Derived.Deep.Slices
import Derived.Lib.Hide
import Derived.BigQuiet
import Derived.Deep.QuietTactic
import Derived.Deep.RegionHeld3
namespace Go.Proofs.YtfklmcmoackepaaDoor
open Go.RowKit Go.ChangeShapes Go.WideShapes

inductive TT where
  | node (k i j n : Int) (ks : List TT)

def In64 (x : Int) : Prop := -9223372036854775808 ≤ x ∧ x ≤ 9223372036854775807

/-- the slice value v reads as the row ks -/
inductive RepT (w : World) : List TT → Value → Prop
  | nil (a : Option Addr) (c : Nat) : RepT w [] (.slice a 0 c)
  | row (b o c : Nat) (ks : List TT) (kv : Nat → Value) (hn : ks.length ≤ maxLen) (hb : b < w.heap.size)
      (hc : ∀ x k i j n l, ks[x]? = some (.node k i j n l) → w.cell? ⟨b, o + x * 5, none⟩ = some (.int .i64 k) ∧ w.cell? ⟨b, o + x * 5 + 1, none⟩ = some (.int .i64 i) ∧ w.cell? ⟨b, o + x * 5 + 2, none⟩ = some (.int .i64 j) ∧ w.cell? ⟨b, o + x * 5 + 3, none⟩ = some (.int .i64 n) ∧ w.cell? ⟨b, o + x * 5 + 4, none⟩ = some (kv x) ∧ In64 k ∧ In64 i ∧ In64 j ∧ In64 n)
      (hk : ∀ x k i j n l, ks[x]? = some (.node k i j n l) → RepT w l (kv x)) :
      RepT w ks (.slice (some ⟨b, o, none⟩) ks.length c)

theorem RepT.kept {w w' : World} (hb : Below w.heap.size w w') : ∀ {ks : List TT} {v : Value}, RepT w ks v → RepT w' ks v := by
  intro ks v h
  induction h with
  | nil a c => exact .nil a c
  | row b o c ks kv hn h1 hc _ ih =>
    refine .row b o c ks kv hn (Nat.lt_of_lt_of_le h1 hb.size) (fun x k i j n l h => ?_) ih
    obtain ⟨c0, c1, c2, c3, c4, c5⟩ := hc x k i j n l h
    exact ⟨by rw [← c0]; exact hb.cell (p := ⟨b, _, none⟩) h1, by rw [← c1]; exact hb.cell (p := ⟨b, _, none⟩) h1, by rw [← c2]; exact hb.cell (p := ⟨b, _, none⟩) h1, by rw [← c3]; exact hb.cell (p := ⟨b, _, none⟩) h1, by rw [← c4]; exact hb.cell (p := ⟨b, _, none⟩) h1, c5⟩

theorem RepT.form {w : World} {ks : List TT} {v : Value} (h : RepT w ks v) : ks.length ≤ maxLen ∧ ∃ a c, v = .slice a ks.length c := by
  cases h with
  | nil a c => exact ⟨by simp, a, c, rfl⟩
  | row b o c ks kv hn => exact ⟨hn, _, c, rfl⟩

/-- element x of a row that can be read -/
theorem RepT.at {w : World} {ks : List TT} {a : Option Addr} {m c : Nat} (h : RepT w ks (.slice a m c)) (x : Nat) (hx : x < ks.length) :
    ∃ (b o : Nat) (k i j n : Int) (l : List TT) (v : Value), a = some ⟨b, o, none⟩ ∧ m = ks.length ∧ b < w.heap.size ∧ ks[x]? = some (.node k i j n l) ∧ w.cell? ⟨b, o + x * 5, none⟩ = some (.int .i64 k) ∧ w.cell? ⟨b, o + x * 5 + 1, none⟩ = some (.int .i64 i) ∧ w.cell? ⟨b, o + x * 5 + 2, none⟩ = some (.int .i64 j) ∧ w.cell? ⟨b, o + x * 5 + 3, none⟩ = some (.int .i64 n) ∧ w.cell? ⟨b, o + x * 5 + 4, none⟩ = some v ∧ (In64 k ∧ In64 i ∧ In64 j ∧ In64 n) ∧ RepT w l v := by
  cases h with
  | nil => simp at hx
  | row b o c ks kv hn hb hc hk =>
    cases hq : ks[x] with
    | node k i j n l =>
      have he : ks[x]? = some (.node k i j n l) := by rw [List.getElem?_eq_getElem hx, hq]
      obtain ⟨c0, c1, c2, c3, c4, c5⟩ := hc x k i j n l he
      exact ⟨b, o, k, i, j, n, l, kv x, rfl, rfl, hb, he, c0, c1, c2, c3, c4, c5, hk x k i j n l he⟩

theorem cellsTerm : Tryd.prog.cellsOf 24 = 5 := by kernel_rfl
theorem len5 {α : Type} : ∀ {l : List α}, l.length = 5 → ∃ a b c d e, l = [a, b, c, d, e]
  | [a, b, c, d, e], _ => ⟨a, b, c, d, e, rfl⟩

section
variable {H : Type} {enc : TypeId × Value → H} {w : World} {base : Nat} {sp : Nat → Bool} {held : Bool}

theorem in64_of_wf {n : Int} (h : (Lit.int .i64 n).wf = true) : In64 n := by
  have h2 : IntKind.i64.min ≤ n ∧ n ≤ 9223372036854775807 := by simpa [Lit.wf] using h
  exact ⟨h2.1, h2.2⟩

theorem open_terms {fuel : Nat} (ih : ∀ m, m < fuel → ∀ cs (x : DataW H × List MemPlace), DataW.trod enc Tryd.prog w base sp held m 24 cs = some x → ∃ k i j n v ks, cs = [.int .i64 k, .int .i64 i, .int .i64 j, .int .i64 n, v] ∧ (In64 k ∧ In64 i ∧ In64 j ∧ In64 n) ∧ RepT w ks v)
    {cs : List Value} {x : DataW H × List MemPlace} (h : DataW.trod enc Tryd.prog w base sp held fuel 22 cs = some x) : ∃ v ks, cs = [v] ∧ RepT w ks v := by
  rcases DataW.trod_slice Tryd.underlying22 h with ⟨rfl, _⟩ | ⟨a, len, cap, elems, rest, n, hf, rfl, _, hb, hl, hm, hlen, hel, _, _⟩
  · exact ⟨_, [], rfl, .nil _ _⟩
  · rw [cellsTerm] at hel
    have key : ∀ x, x < len → ∃ d : TT × Value, ∃ k i j n l, d.1 = .node k i j n l ∧ w.cell? (a.add (x * 5)) = some (.int .i64 k) ∧ w.cell? ((a.add (x * 5)).add 1) = some (.int .i64 i) ∧ w.cell? ((a.add (x * 5)).add 2) = some (.int .i64 j) ∧ w.cell? ((a.add (x * 5)).add 3) = some (.int .i64 n) ∧ w.cell? ((a.add (x * 5)).add 4) = some d.2 ∧ (In64 k ∧ In64 i ∧ In64 j ∧ In64 n) ∧ RepT w l d.2 := by
      intro x hx
      have hj2 := hel x hx
      have he : x < elems.length := by omega
      rw [List.getElem?_eq_getElem he] at hj2
      obtain ⟨cs', h1, h2⟩ := Option.bind_eq_some_iff.1 hj2
      obtain ⟨k, i, j, n, v, ks, rfl, hr, hk⟩ := ih n (by omega) _ _ h2
      obtain ⟨_, _, hc⟩ := World.cells?_some h1
      refine ⟨(.node k i j n ks, v), k, i, j, n, ks, rfl, ?_, ?_, ?_, ?_, ?_, hr, hk⟩
      · have := hc 0 (by omega); simpa [Addr.add] using this
      · simpa using hc 1 (by omega)
      · simpa using hc 2 (by omega)
      · simpa using hc 3 (by omega)
      · simpa using hc 4 (by omega)
    by_cases h0 : len = 0
    · subst h0
      exact ⟨_, [], rfl, .nil _ _⟩
    have : Inhabited (TT × Value) := ⟨(.node 0 0 0 0 [], .bool true)⟩
    obtain ⟨f, hfn⟩ := Deep.choose_lt key
    obtain ⟨b, o, spot⟩ := a
    obtain ⟨_, _, _, _, _, _, hc0, _⟩ := hfn 0 (by omega)
    have hspot : spot = none := by simpa [Addr.add] using World.cell?_spot hc0
    subst hspot
    have hlt : b < w.heap.size := by simpa [Addr.add] using World.block_lt_of_cell? _ _ hc0
    refine ⟨_, (List.range len).map fun x => (f x).1, rfl, ?_⟩
    have hrow := RepT.row (w := w) b o cap ((List.range len).map fun x => (f x).1) (fun x => (f x).2) (by simp; omega) hlt
      (fun x k i j n l hj => ?_) (fun x k i j n l hj => ?_)
    · simpa using hrow
    · have hj1 : x < len := by
        have := (List.getElem?_eq_some_iff.1 hj).1; simpa using this
      obtain ⟨k', i', j', n', l', e, c0, c1, c2, c3, c4, hr, _⟩ := hfn x hj1
      simp [hj1, e] at hj
      obtain ⟨rfl, rfl, rfl, rfl, rfl⟩ := hj
      simp only [add_plain] at c0 c1 c2 c3 c4
      exact ⟨c0, c1, c2, c3, c4, hr⟩
    · have hj1 : x < len := by
        have := (List.getElem?_eq_some_iff.1 hj).1; simpa using this
      obtain ⟨k', i', j', n', l', e, _, _, _, _, _, _, hk⟩ := hfn x hj1
      simp [hj1, e] at hj
      obtain ⟨rfl, rfl, rfl, rfl, rfl⟩ := hj
      exact hk

theorem open_term : ∀ (fuel : Nat) (cs : List Value) (x : DataW H × List MemPlace), DataW.trod enc Tryd.prog w base sp held fuel 24 cs = some x →
    ∃ k i j n v ks, cs = [.int .i64 k, .int .i64 i, .int .i64 j, .int .i64 n, v] ∧ (In64 k ∧ In64 i ∧ In64 j ∧ In64 n) ∧ RepT w ks v := by
  intro fuel
  induction fuel using Nat.strongRecOn with
  | _ fuel ih =>
    intro cs x h
    obtain ⟨xs, n, hn, hx, hl, hlen, hf⟩ := DataW.trod_struct Tryd.underlying24 h
    have hlen5 : xs.length = 5 := hlen
    have hl5 : cs.length = 5 := by rw [hl, cellsTerm]
    obtain ⟨c0, c1, c2, c3, c4, rfl⟩  := len5 hl5
    obtain ⟨x0, x1, x2, x3, x4, rfl⟩  := len5 hlen5
    clear hlen hl hlen5 hl5
    have h0 := hf 0 _ rfl
    have h1 := hf 1 _ rfl
    have h2 := hf 2 _ rfl
    have h3 := hf 3 _ rfl
    have h4 := hf 4 _ rfl
    have e0 : Tryd.prog.cellsOf 3 = 1 := by kernel_rfl
    have e1 : Tryd.prog.cellsOf 22 = 1 := by kernel_rfl
    simp only [List.getElem_toArray, List.getElem_cons_zero, List.getElem_cons_succ] at h0 h1 h2 h3 h4
    rw [e0] at h0 h1 h2 h3; rw [e1] at h4
    simp only [List.drop_zero, List.drop_succ_cons, List.take_succ_cons, List.take_zero, List.getElem?_cons_zero, List.getElem?_cons_succ] at h0 h1 h2 h3 h4
    obtain ⟨k, hk0, _, hk2⟩ := DataW.trod_int Tryd.underlying3 h0
    obtain ⟨i, hi, _, hi2⟩ := DataW.trod_int Tryd.underlying3 h1
    obtain ⟨j, hj, _, hj2⟩ := DataW.trod_int Tryd.underlying3 h2
    obtain ⟨m, hm, _, hm2⟩ := DataW.trod_int Tryd.underlying3 h3
    obtain ⟨v, ks, hv, hk⟩ := open_terms (fun m hm => ih m (by omega)) h4
    simp only [List.cons.injEq, and_true] at hk0 hi hj hm hv
    subst hk0; subst hi; subst hj; subst hm; subst hv
    exact ⟨k, i, j, m, _, ks, rfl, ⟨in64_of_wf hk2, in64_of_wf hi2, in64_of_wf hj2, in64_of_wf hm2⟩, hk⟩
end

def termV (k i j n : Int) (v : Value) : Value := .agg #[.int .i64 k, .int .i64 i, .int .i64 j, .int .i64 n, v]

theorem TT.lt {ks : List TT} {x : Nat} {t : TT} (h : ks[x]? = some t) (k i j n : Int) : SizeOf.sizeOf t < SizeOf.sizeOf (TT.node k i j n ks) := by
  have := List.sizeOf_lt_of_mem (List.mem_of_getElem? h)
  simp; omega
theorem box_cell {w wr : World} {cs : Array Value} {t : TypeId} (hb : Below (w.heap.size + 1) (w.alloc (.cells cs t)) wr) (k : Nat) (_hk : k < cs.size) : wr.cell? ⟨w.heap.size, k, none⟩ = cs[k]? := by
  rw [hb.cell (p := ⟨w.heap.size, k, none⟩) (by simp)]
  have hh : (w.alloc (.cells cs t)).heap[w.heap.size]? = some (.cells cs t) := by unfold World.alloc; simp
  unfold World.cell?
  simp only [hh]; simp
theorem below_of_box {w wr : World} {o : Obj} (hb : Below (w.heap.size + 1) (w.alloc o) wr) : Below w.heap.size w wr :=
  ((Below.refl _ w).alloc (Nat.le_refl _) o).trans (hb.mono (Nat.le_succ _))
theorem below_alloc (w : World) (o : Obj) : Below w.heap.size w (w.alloc o) := (Below.refl _ _).alloc (Nat.le_refl _) _
theorem new_heap (w : World) (cs : Array Value) (t : TypeId) : (w.alloc (.cells cs t)).heap[w.heap.size]? = some (.cells cs t (0, 0)) := by unfold World.alloc; simp
end Go.Proofs.YtfklmcmoackepaaDoor

namespace Go.Proofs.YtfklmcmoackepaaDoor
open Go.RowKit

theorem wp_region_fam_lit {P : Program} {id : Nat} {Q : Exit → Act → World → Prop} {a : Act} {w : World} {l : List Oper} {σ : Type} (f : σ → World) (hm : P.follows .mixedOrders = true) (hB : Region.lexB .any l.toArray = true) (hC : ∃ s, w.drew = f s)
    (h : wpQuiet P l.toArray (fun w' => ∃ s, w' = f s) (fun a' => ∀ w', (∃ s, w' = f s) → Q .normal a' w') l a) : (Code.region id l.toArray true).wp P Q a w :=
  wp_region_quiet (C := fun w' => ∃ s, w' = f s) hm hB hC (by simpa using h)

/-- the worlds in which W0's blocks below B stand as they stood -/
theorem fam (B : Nat) (W0 : World) (hB : B ≤ W0.heap.size) : ∃ (σ : Type) (f : σ → World), Nonempty σ ∧ (∀ s, Below B W0 (f s) ∧ B ≤ (f s).heap.size) ∧ (∀ w', Below B W0 w' → ∃ s, w' = f s) :=
  ⟨{ w' : World // Below B W0 w' ∧ B ≤ w'.heap.size }, fun s => s.1, ⟨⟨W0, Below.refl _ _, hB⟩⟩, fun s => s.2, fun w' h => ⟨⟨w', h, Nat.le_trans hB h.size⟩, rfl⟩⟩

theorem calls_fam {P : Program} {F : FuncId} {args : Array Value} {v : Value} {σ : Type} {f : σ → World} {B : Nat} {W0 : World} {s : σ} (hf : ∀ s, Below B W0 (f s) ∧ B ≤ (f s).heap.size) (hcov : ∀ w', Below B W0 w' → ∃ s, w' = f s)
    (h : Calls P F args (f s) fun e w' => e = .returned v ∧ Below (f s).heap.size (f s) w') : Calls P F args (f s) fun e w'' => e = .returned v ∧ ∃ s', w'' = f s' :=
  h.mono fun _ w' ⟨he, hb⟩ => ⟨he, hcov w' ((hf s).1.trans (hb.mono (hf s).2))⟩
theorem calls_fam_same {P : Program} {F : FuncId} {args : Array Value} {v : Value} {σ : Type} {f : σ → World} {s : σ}
    (h : Calls P F args (f s) fun e w' => e = .returned v ∧ f s = w') : Calls P F args (f s) fun e w'' => e = .returned v ∧ ∃ s', w'' = f s' :=
  h.mono fun _ _ ⟨he, hw⟩ => ⟨he, s, hw.symm⟩
end Go.Proofs.YtfklmcmoackepaaDoor

namespace Go.Proofs.YtfklmcmoackepaaDoor
open Go.RowKit

mutual
def weigh : TT → Int → Int → Int
  | .node _ _ _ _ ks, most, deep => if deep < 0 then most + 1 else weighs ks most deep 1
def weighs : List TT → Int → Int → Int → Int
  | [], _, _, n => n
  | k :: ks, most, deep, n => if n ≤ most then weighs ks most deep (n + weigh k (most - n) (deep - 1)) else n
end

mutual
theorem weigh_in : ∀ (d : TT) (most deep : Int), 0 ≤ most → 1 ≤ weigh d most deep ∧ weigh d most deep ≤ most + 1
  | .node _ _ _ _ ks, most, deep, h => by
    simp only [weigh]
    split
    · omega
    · exact weighs_in ks most deep 1 (by omega) (by omega)
theorem weighs_in : ∀ (ks : List TT) (most deep n : Int), 1 ≤ n → n ≤ most + 1 → 1 ≤ weighs ks most deep n ∧ weighs ks most deep n ≤ most + 1
  | [], most, deep, n, h1, h2 => by simp only [weighs]; exact ⟨h1, h2⟩
  | k :: ks, most, deep, n, h1, h2 => by
    simp only [weighs]
    split
    · have := weigh_in k (most - n) (deep - 1) (by omega)
      exact weighs_in ks most deep _ (by omega) (by omega)
    · exact ⟨h1, h2⟩
end

end Go.Proofs.YtfklmcmoackepaaDoor

namespace Go.Proofs.YtfklmcmoackepaaDoor
open Go.RowKit

mutual
def sameT : TT → TT → Bool
  | .node k i j n ks, .node k' i' j' n' ks' => k == k' && i == i' && j == j' && n == n' && sameTs ks ks'
def sameTs : List TT → List TT → Bool
  | [], [] => true
  | k :: ks, l :: ls => sameT k l && sameTs ks ls
  | _, _ => false
end
mutual
theorem sameT_iff : ∀ (a b : TT), sameT a b = true ↔ a = b
  | .node k i j n ks, .node k' i' j' n' ks' => by
    simp only [sameT, Bool.and_eq_true, beq_iff_eq, sameTs_iff ks ks', TT.node.injEq, and_assoc]
theorem sameTs_iff : ∀ (a b : List TT), sameTs a b = true ↔ a = b
  | [], [] => by simp [sameTs]
  | [], _ :: _ => by simp [sameTs]
  | _ :: _, [] => by simp [sameTs]
  | k :: ks, l :: ls => by simp only [sameTs, Bool.and_eq_true, sameT_iff k l, sameTs_iff ks ls, List.cons.injEq]
end
theorem sameTs_ne : ∀ {a b : List TT}, a.length ≠ b.length → sameTs a b = false := by
  intro a b h
  rw [Bool.eq_false_iff]
  intro h2
  exact h (by rw [(sameTs_iff a b).1 h2])
theorem sameTs_drop {a b : List TT} {x : Nat} {k l : TT} (ha : a[x]? = some k) (hb : b[x]? = some l) : sameTs (a.drop x) (b.drop x) = (sameT k l && sameTs (a.drop (x + 1)) (b.drop (x + 1))) := by
  obtain ⟨h1, e1⟩ := List.getElem?_eq_some_iff.1 ha
  obtain ⟨h2, e2⟩ := List.getElem?_eq_some_iff.1 hb
  rw [List.drop_eq_getElem_cons h1, List.drop_eq_getElem_cons h2, e1, e2, sameTs]

/-- the contract of Same at one size -/
def SameC (N : Nat) : Prop := ∀ (k i j n k' i' j' n' : Int) (ks ks' : List TT) (v v' : Value) (w : World), SizeOf.sizeOf (TT.node k i j n ks) < N → RepT w ks v → RepT w ks' v' →
  Calls Tryd.prog 9 #[termV k i j n v, termV k' i' j' n' v'] w fun e w' => e = .returned (.bool (sameT (.node k i j n ks) (.node k' i' j' n' ks'))) ∧ Below w.heap.size w w'

set_option maxRecDepth 100000 in
set_option maxHeartbeats 1000000 in
theorem terms_any (N : Nat) (ih : SameC N) (ks ks' : List TT) (v v' : Value) (w : World) (hN : ∀ k ∈ ks, SizeOf.sizeOf k < N) (h1 : RepT w ks v) (h2 : RepT w ks' v') :
    Calls Tryd.prog 8 #[v, v'] w fun e w' => e = .returned (.bool (sameTs ks ks')) ∧ Below w.heap.size w w' := by
  obtain ⟨hlen, a, c, rfl⟩ := h1.form
  obtain ⟨hlen2, a2, c2, rfl⟩ := h2.form
  unfold maxLen at hlen hlen2
  have HR1 := Lib.hid h1
  have HR2 := Lib.hid h2
  clear h1 h2
  by_cases hl : ks.length = ks'.length
  · have hne : ((ks.length : Int) != (ks'.length : Int)) = false := by simp [hl]
    have HL := Lib.hid hl
    clear hl
    have HN := Lib.hid hN
    clear hN
    go_enter Tryd.func8, Tryd.ntmps8
    go_wp2
    go_loopw [5] (fun ix wr => ∃ (j : Nat), ix = .int .i64 j ∧ j ≤ ks.length ∧ sameTs (ks.drop j) (ks'.drop j) = sameTs ks ks' ∧ Below w.heap.size w wr) (fun i _ => ks.length - (intOf i).toNat)
    case atStart => exact ⟨0, rfl, by omega, rfl, Below.refl _ _⟩
    case round =>
      obtain ⟨j, rfl, hj, hws, hbel⟩ := hrel
      by_cases hlt : j < ks.length
      · have hlt' : j < ks'.length := by rw [← HL.out]; exact hlt
        obtain ⟨b, o, k1, i1, j1, n1, l1, v1, rfl, _, hbs, hj1, e0, e1, e2, e3, e4, hr1, hk1⟩ := (HR1.out.kept hbel).at j hlt
        obtain ⟨b2, o2, k2, i2, j2, n2, l2, v2, rfl, _, hbs2, hj2, g0, g1, g2, g3, g4, hr2, hk2⟩ := (HR2.out.kept hbel).at j hlt'
        have hd := sameTs_drop hj1 hj2
        rw [hws] at hd
        have hm := HN.out _ (List.mem_of_getElem? hj1)
        have HS := Lib.hid (And.intro hd (And.intro hk1 (And.intro hk2 hm)))
        have HB := Lib.hid hbel
        clear hws hk1 hk2 hr1 hr2 hj1 hj2 hbel hd hm hlen2
        go_wp2_with fail
        go_region_held3 (fun w' => w'.cell? ⟨b, o + j * 5, none⟩ = some (.int .i64 k1) ∧ w'.cell? ⟨b, o + j * 5 + 1, none⟩ = some (.int .i64 i1) ∧ w'.cell? ⟨b, o + j * 5 + 2, none⟩ = some (.int .i64 j1) ∧ w'.cell? ⟨b, o + j * 5 + 3, none⟩ = some (.int .i64 n1) ∧ w'.cell? ⟨b, o + j * 5 + 4, none⟩ = some v1 ∧ w'.cell? ⟨b2, o2 + j * 5, none⟩ = some (.int .i64 k2) ∧ w'.cell? ⟨b2, o2 + j * 5 + 1, none⟩ = some (.int .i64 i2) ∧ w'.cell? ⟨b2, o2 + j * 5 + 2, none⟩ = some (.int .i64 j2) ∧ w'.cell? ⟨b2, o2 + j * 5 + 3, none⟩ = some (.int .i64 n2) ∧ w'.cell? ⟨b2, o2 + j * 5 + 4, none⟩ = some v2 ∧ Below wr.heap.size wr w')
          (first | exact ⟨e0, e1, e2, e3, e4, g0, g1, g2, g3, g4, Below.refl _ _⟩ | exact ⟨e0, e1, e2, e3, e4, g0, g1, g2, g3, g4, (Below.refl _ _).drew⟩ | exact ⟨q0, q1, q2, q3, q4, m0, m1, m2, m3, m4, kb⟩ | go_keep)
          (first | (go_at_call 9
                    refine (ih k1 i1 j1 n1 k2 i2 j2 n2 l1 l2 v1 v2 _ HS.out.2.2.2 (HS.out.2.1.kept (Below.refl _ _).drew) (HS.out.2.2.1.kept (Below.refl _ _).drew)).mono ?_
                    rintro e w2 ⟨rfl, hb2⟩
                    have q0 := (hb2.cell (p := ⟨b, o + j * 5, none⟩) hbs).trans e0
                    have q1 := (hb2.cell (p := ⟨b, o + j * 5 + 1, none⟩) hbs).trans e1
                    have q2 := (hb2.cell (p := ⟨b, o + j * 5 + 2, none⟩) hbs).trans e2
                    have q3 := (hb2.cell (p := ⟨b, o + j * 5 + 3, none⟩) hbs).trans e3
                    have q4 := (hb2.cell (p := ⟨b, o + j * 5 + 4, none⟩) hbs).trans e4
                    have m0 := (hb2.cell (p := ⟨b2, o2 + j * 5, none⟩) hbs2).trans g0
                    have m1 := (hb2.cell (p := ⟨b2, o2 + j * 5 + 1, none⟩) hbs2).trans g1
                    have m2 := (hb2.cell (p := ⟨b2, o2 + j * 5 + 2, none⟩) hbs2).trans g2
                    have m3 := (hb2.cell (p := ⟨b2, o2 + j * 5 + 3, none⟩) hbs2).trans g3
                    have m4 := (hb2.cell (p := ⟨b2, o2 + j * 5 + 4, none⟩) hbs2).trans g4
                    have kb : Below wr.heap.size wr w2 := (Below.refl _ _).drew.trans hb2))
        have KB := Lib.hid kb
        clear q0 q1 q2 q3 q4 m0 m1 m2 m3 m4 kb hb2 e0 e1 e2 e3 e4 g0 g1 g2 g3 g4
        have hsz := HB.out.size
        cases hrd : sameT (.node k1 i1 j1 n1 l1) (.node k2 i2 j2 n2 l2)
        · have hfin : sameTs ks ks' = false := by rw [HS.out.1, hrd]; rfl
          have HF := Lib.hid hfin
          clear hfin
          go_wp2
          go_ret
          exact ⟨by rw [HF.out]; rfl, HB.out.trans (KB.out.mono hsz)⟩
        · have hfin : sameTs (ks.drop (j + 1)) (ks'.drop (j + 1)) = sameTs ks ks' := by rw [HS.out.1, hrd]; rfl
          have HF := Lib.hid hfin
          clear hfin
          go_wp2
          go_round
          case rel => exact ⟨j + 1, by go_num, by omega, HF.out, HB.out.trans (KB.out.mono hsz)⟩
          case measure => simp [intOf]; omega
      · have hjl : j = ks.length := by omega
        subst hjl
        have hfin : sameTs ks ks' = true := by rw [← hws, List.drop_length, HL.out, List.drop_length, sameTs]
        have HF := Lib.hid (And.intro hfin hbel)
        clear hws hfin hbel
        go_wp2
        go_ret
        exact ⟨by rw [HF.out.1]; rfl, HF.out.2⟩
  · have hne : ((ks.length : Int) != (ks'.length : Int)) = true := by simp; omega
    have HF := Lib.hid (sameTs_ne hl)
    clear hl hN
    go_enter Tryd.func8, Tryd.ntmps8
    go_wp2
    go_ret
    exact ⟨by rw [HF.out]; rfl, Below.refl _ _⟩

set_option maxRecDepth 100000 in
set_option maxHeartbeats 1000000 in
theorem same_step (N : Nat) (ih : SameC N) : SameC (N + 1) := by
  intro k i j n k' i' j' n' ks ks' v v' w hN h1 h2
  have hN2 : ∀ x ∈ ks, SizeOf.sizeOf x < N := fun x hx => by
    have := List.sizeOf_lt_of_mem hx
    simp at hN
    omega
  clear hN
  obtain ⟨hlen, a, c, rfl⟩ := h1.form
  obtain ⟨hlen2, a2, c2, rfl⟩ := h2.form
  clear hlen hlen2
  have HR := Lib.hid (And.intro h1 h2)
  clear h1 h2
  have HN := Lib.hid hN2
  clear hN2
  unfold termV
  by_cases h0 : k = k'
  case neg =>
    have e0 : (k == k') = false := by simp [h0]
    have HV : Hid (sameT (.node k i j n ks) (.node k' i' j' n' ks') = false) := Lib.hid (by simp [sameT, h0])
    clear h0
    go_enter Tryd.func9, Tryd.ntmps9
    go_wp2
    go_ret
    exact ⟨by rw [HV.out]; rfl, ((Below.refl _ _).alloc (Nat.le_refl _) _).alloc (by simp) _⟩
  subst h0
  by_cases h1 : i = i'
  case neg =>
    have e0 : (k == k) = true := by simp
    have e1 : (i == i') = false := by simp [h1]
    have HV : Hid (sameT (.node k i j n ks) (.node k i' j' n' ks') = false) := Lib.hid (by simp [sameT, h1])
    clear h1
    go_enter Tryd.func9, Tryd.ntmps9
    go_wp2
    go_ret
    exact ⟨by rw [HV.out]; rfl, ((Below.refl _ _).alloc (Nat.le_refl _) _).alloc (by simp) _⟩
  subst h1
  by_cases h2 : j = j'
  case neg =>
    have e0 : (k == k) = true := by simp
    have e1 : (i == i) = true := by simp
    have e2 : (j == j') = false := by simp [h2]
    have HV : Hid (sameT (.node k i j n ks) (.node k i j' n' ks') = false) := Lib.hid (by simp [sameT, h2])
    clear h2
    go_enter Tryd.func9, Tryd.ntmps9
    go_wp2
    go_ret
    exact ⟨by rw [HV.out]; rfl, ((Below.refl _ _).alloc (Nat.le_refl _) _).alloc (by simp) _⟩
  subst h2
  by_cases h3 : n = n'
  case neg =>
    have e0 : (k == k) = true := by simp
    have e1 : (i == i) = true := by simp
    have e2 : (j == j) = true := by simp
    have e3 : (n == n') = false := by simp [h3]
    have HV : Hid (sameT (.node k i j n ks) (.node k i j n' ks') = false) := Lib.hid (by simp [sameT, h3])
    clear h3
    go_enter Tryd.func9, Tryd.ntmps9
    go_wp2
    go_ret
    exact ⟨by rw [HV.out]; rfl, ((Below.refl _ _).alloc (Nat.le_refl _) _).alloc (by simp) _⟩
  subst h3
  have e0 : (k == k) = true := by simp
  have e1 : (i == i) = true := by simp
  have e2 : (j == j) = true := by simp
  have e3 : (n == n) = true := by simp
  have HV : Hid (sameT (.node k i j n ks) (.node k i j n ks') = sameTs ks ks') := Lib.hid (by simp [sameT])
  have HB0 : Hid (Below w.heap.size w ((w.alloc (.cells #[.int .i64 k, .int .i64 i, .int .i64 j, .int .i64 n, .slice a ks.length c] 24)).alloc (.cells #[.int .i64 k, .int .i64 i, .int .i64 j, .int .i64 n, .slice a2 ks'.length c2] 24))) := Lib.hid (((Below.refl _ _).alloc (Nat.le_refl _) _).alloc (by simp) _)
  go_enter Tryd.func9, Tryd.ntmps9
  go_wp2_with fail
  refine (terms_any N ih ks ks' _ _ _ HN.out (HR.out.1.kept HB0.out) (HR.out.2.kept HB0.out)).mono ?_
  rintro e w2 ⟨rfl, hb2⟩
  have HB2 := Lib.hid hb2
  clear hb2
  go_wp2
  go_ret
  exact ⟨by rw [HV.out]; rfl, HB0.out.trans (HB2.out.mono (by simp; omega))⟩

theorem same_all : ∀ N, SameC N
  | 0 => fun _ _ _ _ _ _ _ _ _ _ _ _ _ h => absurd h (Nat.not_lt_zero _)
  | N + 1 => same_step N (same_all N)
theorem same_any (k i j n k' i' j' n' : Int) (ks ks' : List TT) (v v' : Value) (w : World) (h1 : RepT w ks v) (h2 : RepT w ks' v') :
    Calls Tryd.prog 9 #[termV k i j n v, termV k' i' j' n' v'] w fun e w' => e = .returned (.bool (sameT (.node k i j n ks) (.node k' i' j' n' ks'))) ∧ Below w.heap.size w w' :=
  same_all _ k i j n k' i' j' n' ks ks' v v' w (Nat.lt_succ_self _) h1 h2
end Go.Proofs.YtfklmcmoackepaaDoor
