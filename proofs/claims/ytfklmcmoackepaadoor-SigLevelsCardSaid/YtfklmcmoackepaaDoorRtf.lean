/- Walks of term.right, Right. How many nodes a term has; what is not Great has few. Walks of transhipkeep.Great, term.free, Free. Walks of transhipref04.free, Free. -/
import Derived.Test.YtfklmcmoackepaaDoorTnu
import Derived.Test.YtfklmcmoackepaaDoorTs
import Derived.Test.YtfklmcmoackepaaDoorRt
namespace Go.Proofs.YtfklmcmoackepaaDoor
open Go.RowKit

theorem rightTs_cons {k : Int} : ∀ {ks : List TT} {x y : Nat} {t : TT}, ks[y]? = some t → rightTs k (x + y) (ks.drop y) = (rightT t (ofK k (x + y)) && rightTs k (x + (y + 1)) (ks.drop (y + 1))) := by
  intro ks x y t h
  obtain ⟨hlt, he⟩ := List.getElem?_eq_some_iff.1 h
  rw [List.drop_eq_getElem_cons hlt, he, rightTs]
  rfl

/-- the four numbers of a term -/
def In4 (k i j n : Int) : Prop := In64 k ∧ In64 i ∧ In64 j ∧ In64 n
theorem sortK_in (k : Int) : sortK k = 0 ∨ sortK k = 1 ∨ sortK k = 2 := by
  unfold sortK
  split
  · exact .inl rfl
  · split
    · exact .inr (.inl rfl)
    · exact .inr (.inr rfl)


end Go.Proofs.YtfklmcmoackepaaDoor

namespace Go.Proofs.YtfklmcmoackepaaDoor
open Go.RowKit

mutual
def sizeT : TT → Nat
  | .node _ _ _ _ ks => 1 + sizeTs ks
def sizeTs : List TT → Nat
  | [] => 0
  | k :: ks => sizeT k + sizeTs ks
end
theorem weighs_gt : ∀ (ks : List TT) (most deep n : Int), most < n → weighs ks most deep n = n
  | [], _, _, _, _ => by simp [weighs]
  | k :: ks, most, deep, n, h => by simp only [weighs]; rw [if_neg (by omega)]
mutual
theorem weigh_size : ∀ (d : TT) (most deep : Int), weigh d most deep ≤ most → weigh d most deep = sizeT d
  | .node _ _ _ _ ks, most, deep, h => by
    simp only [weigh] at *
    split at h
    · omega
    · rename_i hd
      rw [if_neg hd]
      have := weighs_size ks most deep 1 h
      rw [this, sizeT]
      omega
theorem weighs_size : ∀ (ks : List TT) (most deep n : Int), weighs ks most deep n ≤ most → weighs ks most deep n = n + sizeTs ks
  | [], most, deep, n, h => by simp [weighs, sizeTs]
  | k :: ks, most, deep, n, h => by
    simp only [weighs] at *
    split at h
    · rename_i hn
      rw [if_pos hn]
      by_cases hk : weigh k (most - n) (deep - 1) ≤ most - n
      · have h1 := weigh_size k (most - n) (deep - 1) hk
        have h2 := weighs_size ks most deep (n + weigh k (most - n) (deep - 1)) h
        rw [h2, sizeTs, h1]
        omega
      · rw [weighs_gt ks most deep _ (by omega)] at h
        omega
    · omega
end

theorem sizeTs_at {ks : List TT} {x : Nat} {t : TT} (h : ks[x]? = some t) : sizeT t ≤ sizeTs ks := by
  induction ks generalizing x with
  | nil => simp at h
  | cons u us ih =>
    cases x with
    | zero => simp at h; subst h; simp only [sizeTs]; omega
    | succ x => have := ih (x := x) (by simpa using h); simp only [sizeTs]; omega


theorem freeTs_drop {k : Int} {ks : List TT} {x : Nat} {t : TT} (h : ks[x]? = some t) (deep : Int) : freeTs k x (ks.drop x) deep = max (freeT t (deep + bindsK k x)) (freeTs k (x + 1) (ks.drop (x + 1)) deep) := by
  obtain ⟨hlt, he⟩ := List.getElem?_eq_some_iff.1 h
  rw [List.drop_eq_getElem_cons hlt, he, freeTs]
mutual
theorem freeT_in : ∀ (t : TT) (deep : Int) (w : Int), 0 ≤ deep → rightT t w = true → 0 ≤ freeT t deep ∧ freeT t deep ≤ 2147483648
  | .node k i j n ks, deep, w, h0, h => by
    obtain ⟨a1, a2, a3⟩ := rightT_parts h
    simp only [freeT]
    by_cases hk : k = 2
    · rw [if_pos hk]
      subst hk
      rw [show numbersB 2 i j n = (decide (0 ≤ i) && decide (i ≤ 2147483647) && j == 0 && n == 0) from rfl] at a2
      simp only [Bool.and_eq_true, decide_eq_true_eq] at a2
      omega
    · rw [if_neg hk]; exact freeTs_in k 0 ks deep h0 a3
theorem freeTs_in : ∀ (k : Int) (x : Nat) (ks : List TT) (deep : Int), 0 ≤ deep → rightTs k x ks = true → 0 ≤ freeTs k x ks deep ∧ freeTs k x ks deep ≤ 2147483648
  | _, _, [], _, _, _ => by simp [freeTs]
  | k, x, t :: ts, deep, h0, h => by
    simp only [rightTs, Bool.and_eq_true] at h
    have hb := bindsK_in k x
    have h1 := freeT_in t (deep + bindsK k x) _ (by omega) h.1
    have h2 := freeTs_in k (x + 1) ts deep h0 h.2
    simp only [freeTs]
    omega
end
theorem rightTs_at {k : Int} {ks : List TT} {q : Nat} {t : TT} (h : ks[q]? = some t) (hr : rightTs k 0 ks = true) : rightT t (ofK k q) = true := by
  have key : ∀ (ks : List TT) (x q : Nat) (t : TT), ks[q]? = some t → rightTs k x ks = true → rightT t (ofK k (x + q)) = true := by
    intro ks
    induction ks with
    | nil => intro x q t h; simp at h
    | cons u us ih =>
      intro x q t h hr
      simp only [rightTs, Bool.and_eq_true] at hr
      cases q with
      | zero => simp at h; subst h; exact hr.1
      | succ q => have := ih (x + 1) q t (by simpa using h) hr.2; rw [show x + (q + 1) = x + 1 + q by omega]; exact this
  simpa using key ks 0 q t h hr


def freeOf (t : TT) : Int := if rightT t 0 = true then freeT t 0 else 0
end Go.Proofs.YtfklmcmoackepaaDoor

namespace Go.Proofs.YtfklmcmoackepaaDoor
open Go.RowKit

theorem freeRs_cons {k : Int} : ∀ {ks : List TT} {x y : Nat} {t : TT}, ks[y]? = some t → freeRs k (x + y) (ks.drop y) = max (freeR t - bindsK k ((x + y : Nat) : Int)) (freeRs k (x + (y + 1)) (ks.drop (y + 1)))
  | [], x, y, t, h => by simp at h
  | u :: ks, x, 0, t, h => by simp at h; subst h; simp [freeRs]
  | u :: ks, x, y + 1, t, h => by
    have := freeRs_cons (k := k) (ks := ks) (x := x + 1) (y := y) (by simpa using h)
    rw [show x + 1 + y = x + (y + 1) by omega, show x + 1 + (y + 1) = x + (y + 1 + 1) by omega] at this
    simpa using this
mutual
theorem freeR_in : ∀ (t : TT) (w : Int), rightT t w = true → 0 ≤ freeR t ∧ freeR t ≤ 2147483648
  | .node k i j n ks, w, h => by
    obtain ⟨h1, h2, h3⟩ := rightT_parts h
    simp only [freeR]
    by_cases hk : k = 2
    · subst hk
      rw [show numbersB 2 i j n = (decide (0 ≤ i) && decide (i ≤ 2147483647) && j == 0 && n == 0) from rfl] at h2
      simp only [Bool.and_eq_true, decide_eq_true_eq] at h2
      rw [if_pos rfl]; omega
    · rw [if_neg hk]; exact freeRs_in k 0 ks h3
theorem freeRs_in : ∀ (k : Int) (x : Nat) (ks : List TT), rightTs k x ks = true → 0 ≤ freeRs k x ks ∧ freeRs k x ks ≤ 2147483648
  | _, _, [], _ => by simp [freeRs]
  | k, x, t :: ts, h => by
    simp only [rightTs, Bool.and_eq_true] at h
    have h1 := freeR_in t _ h.1
    have h2 := freeRs_in k (x + 1) ts h.2
    have hb := bindsK_in k x
    simp only [freeRs]
    omega
end
theorem freeOf_R {t : TT} (h : rightT t 0 = true) : freeOf t = freeR t := by
  have h1 := freeR_in t 0 h
  unfold freeOf
  rw [if_pos h, free_is t 0 (by omega)]
  omega

set_option maxRecDepth 100000 in
set_option maxHeartbeats 4000000 in
theorem rfree_any : ∀ (N : Nat) (k i j n : Int) (ks : List TT) (v : Value) (want : Int) (w : World), SizeOf.sizeOf (TT.node k i j n ks) < N → RepT w ks v → rightT (.node k i j n ks) want = true →
    Calls Tryd.prog 28 #[termV k i j n v] w fun e w' => e = .returned (.int .i64 (freeR (.node k i j n ks))) ∧ Below w.heap.size w w' := by
  intro N
  induction N with
  | zero => intro k i j n ks v want w h; omega
  | succ N ih =>
    intro k i j n ks v want w hN hrep hright
    obtain ⟨r1, r2, r3⟩ := rightT_parts hright
    obtain ⟨hlen, a, c, rfl⟩ := hrep.form
    unfold maxLen at hlen
    have HR := Lib.hid hrep
    clear hrep hright
    unfold termV
    by_cases hk : k = 2
    · subst hk
      have HV : Hid (freeR (.node 2 i j n ks) = i + 1) := Lib.hid (by simp [freeR])
      have hi : 0 ≤ i ∧ i ≤ 2147483647 := by
        rw [show numbersB 2 i j n = (decide (0 ≤ i) && decide (i ≤ 2147483647) && j == 0 && n == 0) from rfl] at r2
        simp only [Bool.and_eq_true, decide_eq_true_eq] at r2
        omega
      obtain ⟨hi1, hi2⟩ := hi
      clear r1 r2 r3
      go_enter Tryd.func28, Tryd.ntmps28
      go_wp2
      go_ret
      exact ⟨by rw [HV.out]; rfl, below_alloc _ _⟩
    have HV : Hid (freeR (.node k i j n ks) = freeRs k 0 ks) := Lib.hid (by simp [freeR, hk])
    have hk2 : (k == 2) = false := by simp [hk]
    have HB0 : Hid (Below (w.heap.size + 1) (w.alloc (.cells #[.int .i64 k, .int .i64 i, .int .i64 j, .int .i64 n, .slice a ks.length c] 24)) (w.alloc (.cells #[.int .i64 k, .int .i64 i, .int .i64 j, .int .i64 n, .slice a ks.length c] 24))) := Lib.hid (Below.refl _ _)
    have HRT := Lib.hid r3
    clear r1 r2 r3 hk
    go_enter Tryd.func28, Tryd.ntmps28
    go_wp2_with fail
    go_loopw [3, 4] (fun mx ix wr => ∃ (q : Nat) (m : Int), ix = .int .i64 q ∧ mx = .int .i64 m ∧ q ≤ ks.length ∧ 0 ≤ m ∧ m ≤ 2147483648 ∧ max m (freeRs k q (ks.drop q)) = freeRs k 0 ks ∧ Below (w.heap.size + 1) (w.alloc (.cells #[.int .i64 k, .int .i64 i, .int .i64 j, .int .i64 n, .slice a ks.length c] 24)) wr) (fun _ x _ => ks.length - (intOf x).toNat)
    case atStart => exact ⟨0, 0, rfl, rfl, by omega, by omega, by omega, by have := freeRs_in k 0 ks HRT.out; simp only [List.drop_zero]; omega, HB0.out⟩
    case round =>
      obtain ⟨q, m, rfl, rfl, hq, hm0, hm1, hws, hbel⟩ := hrel
      have hB := below_of_box hbel
      have hsz : w.heap.size + 1 ≤ wr.heap.size := by simpa using hbel.size
      have c0 : wr.cell? ⟨w.heap.size, 0, none⟩ = some (.int .i64 k) := by rw [box_cell hbel 0 (by simp)]; rfl
      have c1 : wr.cell? ⟨w.heap.size, 1, none⟩ = some (.int .i64 i) := by rw [box_cell hbel 1 (by simp)]; rfl
      have c2 : wr.cell? ⟨w.heap.size, 2, none⟩ = some (.int .i64 j) := by rw [box_cell hbel 2 (by simp)]; rfl
      have c3 : wr.cell? ⟨w.heap.size, 3, none⟩ = some (.int .i64 n) := by rw [box_cell hbel 3 (by simp)]; rfl
      have c4 : wr.cell? ⟨w.heap.size, 4, none⟩ = some (.slice a ks.length c) := by rw [box_cell hbel 4 (by simp)]; rfl
      by_cases hlt : q < ks.length
      · obtain ⟨b, o, k1, i1, j1, n1, l1, v1, rfl, _, hbs, hj1, e0, e1, e2, e3, e4, hr1, hk1⟩ := (HR.out.kept hB).at q hlt
        obtain ⟨hl1, a1, c1, rfl⟩ := hk1.form
        clear hl1
        have hd := freeRs_cons (k := k) (x := 0) hj1
        simp only [Nat.zero_add] at hd
        rw [hd] at hws
        have hlt1 := TT.lt hj1 k i j n
        have hb := bindsK_in k q
        have hrt := rightTs_at hj1 HRT.out
        obtain ⟨bi, hbi⟩ : ∃ bi : Nat, bindsK k q = (bi : Int) := ⟨(bindsK k q).toNat, by omega⟩
        have hin := freeR_in _ _ hrt
        obtain ⟨hin0, hin1⟩ := hin
        have HS := Lib.hid (And.intro hk1 hrt)
        have HW := Lib.hid hws
        have HBI := Lib.hid hbi
        have HBC : Hid (∀ w', Calls Tryd.prog 42 #[.int .i64 k, .int .i64 q] w' fun e w'' => e = .returned (.int .i64 bi) ∧ w' = w'') := Lib.hid (fun w' => by rw [← hbi]; exact rbinds_any _ _ _)
        have HB := Lib.hid (And.intro hbel hB)
        have hbi2 : bi ≤ 2 := by omega
        have hblt : b < wr.heap.size := hbs
        clear hws hk1 hr1 hj1 hbel hB hd hrt hbi hb
        go_wp2_with fail
        obtain ⟨σ, f, hnem, hf, hcov⟩ := fam wr.heap.size wr (Nat.le_refl _)
        have hc0 : ∀ s, (f s).cell? ⟨w.heap.size, 0, none⟩ = some (.int .i64 k) := fun s => ((hf s).1.cell (p := ⟨w.heap.size, 0, none⟩) (by show w.heap.size < _; omega)).trans c0
        have hc4 : ∀ s, (f s).cell? ⟨w.heap.size, 4, none⟩ = some (.slice (some ⟨b, o, none⟩) ks.length c) := fun s => ((hf s).1.cell (p := ⟨w.heap.size, 4, none⟩) (by show w.heap.size < _; omega)).trans c4
        have hd0 : ∀ s, (f s).cell? ⟨b, o + q * 5, none⟩ = some (.int .i64 k1) := fun s => ((hf s).1.cell (p := ⟨b, o + q * 5, none⟩) hblt).trans e0
        have hd1 : ∀ s, (f s).cell? ⟨b, o + q * 5 + 1, none⟩ = some (.int .i64 i1) := fun s => ((hf s).1.cell (p := ⟨b, o + q * 5 + 1, none⟩) hblt).trans e1
        have hd2 : ∀ s, (f s).cell? ⟨b, o + q * 5 + 2, none⟩ = some (.int .i64 j1) := fun s => ((hf s).1.cell (p := ⟨b, o + q * 5 + 2, none⟩) hblt).trans e2
        have hd3 : ∀ s, (f s).cell? ⟨b, o + q * 5 + 3, none⟩ = some (.int .i64 n1) := fun s => ((hf s).1.cell (p := ⟨b, o + q * 5 + 3, none⟩) hblt).trans e3
        have hd4 : ∀ s, (f s).cell? ⟨b, o + q * 5 + 4, none⟩ = some (.slice a1 l1.length c1) := fun s => ((hf s).1.cell (p := ⟨b, o + q * 5 + 4, none⟩) hblt).trans e4
        have HF := Lib.hid hf
        have HCOV := Lib.hid hcov
        clear hf hcov c0 c2 c3 c4 e0 e1 e2 e3 e4
        refine wp_region_fam_lit f (by kernel_rfl) (by kernel_rfl) (HCOV.out _ (Below.refl _ _).drew) ?_
        repeat (go_big_quiet_step ((first
          | (go_at_call 42; exact calls_fam_same (HBC.out _))
          | (go_at_call 28; exact calls_fam HF.out HCOV.out (ih k1 i1 j1 n1 l1 _ _ _ (by omega) (HS.out.1.kept (HF.out _).1) HS.out.2)))))
        refine wpQuiet_nil ?_
        rintro _ ⟨s, rfl⟩
        have HFS := Lib.hid (HF.out s).1
        clear HF HCOV hc0 hc4 hd0 hd1 hd2 hd3 hd4
        generalize f s = wf at HFS
        have hws2 : max (max m (freeR (.node k1 i1 j1 n1 l1) - (bi : Int))) (freeRs k (q + 1) (ks.drop (q + 1))) = freeRs k 0 ks := by
          have := HW.out
          rw [HBI.out] at this
          omega
        have HW2 := Lib.hid hws2
        clear hws2
        go_wp2
        go_roundw
        case rel => exact ⟨q + 1, _, by go_num, rfl, by omega, by omega, by omega, HW2.out, HB.out.1.trans (HFS.out.mono hsz)⟩
        case measure => simp [intOf]; omega
      · have hjl : q = ks.length := by omega
        subst hjl
        have hfin : freeRs k 0 ks = m := by rw [← hws, List.drop_length, freeRs]; omega
        have HF := Lib.hid (And.intro hfin hB)
        clear hws hfin hbel hB
        go_wp2
        go_ret
        exact ⟨by rw [HV.out, HF.out.1]; rfl, HF.out.2⟩

set_option maxRecDepth 100000 in
set_option maxHeartbeats 4000000 in
theorem rFree04_any (k i j n : Int) (ks : List TT) (v : Value) (w : World) (hrep : RepT w ks v) :
    Calls Tryd.prog 15 #[termV k i j n v] w fun e w' => e = .returned (.int .i64 (freeOf (.node k i j n ks))) ∧ Below w.heap.size w w' := by
  obtain ⟨hlen, a, c, rfl⟩ := hrep.form
  clear hlen
  have HR := Lib.hid hrep
  clear hrep
  unfold termV
  go_enter Tryd.func15, Tryd.ntmps15
  go_wp2_with fail
  refine (rright04_any k i j n ks _ _ (HR.out.kept (below_alloc _ _))).mono ?_
  rintro e w1 ⟨rfl, hb1⟩
  have HFS : Hid (Below (w.heap.size + 1) (w.alloc (.cells #[.int .i64 k, .int .i64 i, .int .i64 j, .int .i64 n, .slice a ks.length c] 24)) w1) := Lib.hid (by simpa using hb1)
  clear hb1
  have c0 : w1.cell? ⟨w.heap.size, 0, none⟩ = some (.int .i64 k) := by rw [box_cell HFS.out 0 (by simp)]; rfl
  have c1 : w1.cell? ⟨w.heap.size, 1, none⟩ = some (.int .i64 i) := by rw [box_cell HFS.out 1 (by simp)]; rfl
  have c2 : w1.cell? ⟨w.heap.size, 2, none⟩ = some (.int .i64 j) := by rw [box_cell HFS.out 2 (by simp)]; rfl
  have c3 : w1.cell? ⟨w.heap.size, 3, none⟩ = some (.int .i64 n) := by rw [box_cell HFS.out 3 (by simp)]; rfl
  have c4 : w1.cell? ⟨w.heap.size, 4, none⟩ = some (.slice a ks.length c) := by rw [box_cell HFS.out 4 (by simp)]; rfl
  cases hq : rightT (.node k i j n ks) 0
  · have HV : Hid (freeOf (.node k i j n ks) = 0) := Lib.hid (by simp [freeOf, hq])
    clear hq
    go_wp2
    go_ret
    exact ⟨by rw [HV.out]; rfl, below_of_box HFS.out⟩
  · have HV := Lib.hid (freeOf_R hq)
    have HQ := Lib.hid hq
    clear hq
    go_wp2_with fail
    refine (rfree_any _ k i j n ks _ 0 _ (Nat.lt_succ_self _) (HR.out.kept (below_of_box HFS.out)) HQ.out).mono ?_
    rintro e w2 ⟨rfl, hb2⟩
    have HB2 := Lib.hid ((below_of_box HFS.out).trans (hb2.mono (below_of_box HFS.out).size))
    clear hb2
    go_wp2
    go_ret
    exact ⟨by rw [HV.out]; rfl, HB2.out⟩
end Go.Proofs.YtfklmcmoackepaaDoor
