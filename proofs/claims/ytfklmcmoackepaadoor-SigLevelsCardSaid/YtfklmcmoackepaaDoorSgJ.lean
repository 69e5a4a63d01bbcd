/- Walk of transhiplaw17.SigShape. -/
import Derived.Test.YtfklmcmoackepaaDoorSgH
import Derived.Test.YtfklmcmoackepaaDoorLaw09
namespace Go.Proofs.YtfklmcmoackepaaDoor
open Go.RowKit

theorem freeOf_le {t : TT} {n : Nat} (h : freeT t 0 ≤ (n : Int)) : freeOf t ≤ (n : Int) := by
  unfold freeOf
  split
  · exact h
  · omega
/-- the card's callees, at a term that is known -/
theorem plain_is {w : World} {t : TT} {v : Value} {d : Bool} (h : RepT w t.kids v) (hd : plainT t = d) : Calls Tryd.prog 14 #[termV t.kd t.ni t.nj t.nn v] w fun e w' => e = .returned (.bool d) ∧ Below w.heap.size w w' := by
  have := rplain_any _ t.kd t.ni t.nj t.nn t.kids v w (Nat.lt_succ_self _) h
  rw [← TT.eta, hd] at this
  exact this
theorem free_isV {w : World} {t : TT} {v : Value} {x : Int} (h : RepT w t.kids v) (hx : freeOf t = x) : Calls Tryd.prog 15 #[termV t.kd t.ni t.nj t.nn v] w fun e w' => e = .returned (.int .i64 x) ∧ Below w.heap.size w w' := by
  have := rFree04_any t.kd t.ni t.nj t.nn t.kids v w h
  rw [← TT.eta, hx] at this
  exact this
theorem plain_node {w : World} {k i j n : Int} {l : List TT} {v : Value} {d : Bool} (h : RepT w l v) (hd : plainT (.node k i j n l) = d) : Calls Tryd.prog 14 #[termV k i j n v] w fun e w' => e = .returned (.bool d) ∧ Below w.heap.size w w' := by
  rw [← hd]; exact rplain_any _ k i j n l v w (Nat.lt_succ_self _) h
theorem free_node {w : World} {k i j n x : Int} {l : List TT} {v : Value} (h : RepT w l v) (hx : freeOf (.node k i j n l) = x) : Calls Tryd.prog 15 #[termV k i j n v] w fun e w' => e = .returned (.int .i64 x) ∧ Below w.heap.size w w' := by
  rw [← hx]; exact rFree04_any k i j n l v w h
theorem kids_isV {w : World} {n x : Int} (hx : kidsK 23 n = x) : Calls Tryd.prog 12 #[.int .i64 23, .int .i64 n] w fun e w' => e = .returned (.int .i64 x) ∧ Below w.heap.size w w' := by
  rw [← hx]; exact rkids04_any 23 n w

set_option maxHeartbeats 8000000 in
set_option maxRecDepth 100000 in
theorem sigShape_none (n i j : Int) (hn : NoSym n i j) (w : World) (ht : Tab w) :
    Calls Tryd.prog 5 #[.int .i64 n, .int .i64 i, .int .i64 j] w fun e w' => e = .returned (.bool true) ∧ Below w.heap.size w w' := by
  have HT := Lib.hid ht
  have hw := no_ways hn
  have HN := Lib.hid hn
  clear ht hn
  rcases hw with g1 | ⟨g1, g2⟩ | ⟨g1, g2, g3⟩ | ⟨g1, g2, g3, g4⟩ | ⟨g1, g2, g3, g4, g5⟩ | ⟨g1, g2, g3, g4, g5, g6⟩
  all_goals
    go_enter Tryd.func5, Tryd.ntmps5
    go_wp2_with fail
    refine (at_none n i j HN.out w).mono ?_
    rintro e w1 ⟨rfl, hb1⟩
    have HB2 : Hid (Below w.heap.size w (w1.alloc (.cells #[.string ⟨#[]⟩, .slice none 0 0, .int .i64 0, .int .i64 0, .int .i64 0, .int .i64 0, .slice none 0 0, .int .i64 0, .int .i64 0, .int .i64 0, .int .i64 0, .slice none 0 0, .bool false] 26))) := Lib.hid (hb1.trans ((below_alloc _ _).mono hb1.size))
    have HX := Lib.hid (new_heap w1 #[.string ⟨#[]⟩, .slice none 0 0, .int .i64 0, .int .i64 0, .int .i64 0, .int .i64 0, .slice none 0 0, .int .i64 0, .int .i64 0, .int .i64 0, .int .i64 0, .slice none 0 0, .bool false] 26)
    clear hb1
    obtain ⟨s0, s1, s2, s3, s4, s5, s6, s7, s8, s9, s10, s11, s12, _⟩ := cells13 HX.out
    unfold symCells nilV
    go_wp2_with fail
    refine (wakes17 _ (HT.out.below HB2.out)).mono ?_
    rintro e w2 ⟨rfl, hb2⟩
    have HB3 : Hid (Below w.heap.size w w2) := Lib.hid (HB2.out.trans (hb2.mono HB2.out.size))
    clear hb2
    go_wp2
    go_ret
    exact ⟨rfl, HB3.out⟩

set_option maxHeartbeats 8000000 in
set_option maxRecDepth 100000 in
theorem sigShape_sym (m : Nat) (i j : Int) (hm : m < 21) {s : LineM} (hok : SymOK m s) (w : World) (ht : Tab w) (hat : Calls Tryd.prog 6 #[.int .i64 ((m : Int) + 1), .int .i64 i, .int .i64 j] w (AtOut w s)) :
    Calls Tryd.prog 5 #[.int .i64 ((m : Int) + 1), .int .i64 i, .int .i64 j] w fun e w' => e = .returned (.bool true) ∧ Below w.heap.size w w' := by
  have HT := Lib.hid ht
  have HOK := Lib.hid hok
  have HAT := Lib.hid hat
  have hdm : decide ((2 : Int) < (m : Int) + 1) = s.isDef := by rw [hok.isDef]; by_cases h : 2 ≤ m; rw [decide_eq_true h, decide_eq_true (by omega)]; rw [decide_eq_false h, decide_eq_false (by omega)]
  clear ht hok hat
  go_enter Tryd.func5, Tryd.ntmps5
  go_wp2_with fail
  refine HAT.out.mono ?_
  intro e w1 h1
  obtain ⟨pv, tv, bv, rfl, hp, hty, hbd, hb1⟩ := h1
  obtain ⟨hpl, ap, cp, rfl⟩ := hp.form
  obtain ⟨_, at', ct, rfl⟩ := hty.form
  obtain ⟨_, ab, cb, rfl⟩ := hbd.form
  unfold maxLen at hpl
  have HB1 := Lib.hid hb1
  have HR := Lib.hid (And.intro hp (And.intro hty hbd))
  have HX1 := Lib.hid (new_heap w1 #[.string ⟨s.name.toArray⟩, .slice ap s.params.length cp, .int .i64 s.type.kd, .int .i64 s.type.ni, .int .i64 s.type.nj, .int .i64 s.type.nn, .slice at' s.type.kids.length ct, .int .i64 s.body.kd, .int .i64 s.body.ni, .int .i64 s.body.nj, .int .i64 s.body.nn, .slice ab s.body.kids.length cb, .bool s.isDef] 26)
  have HBX := Lib.hid (below_alloc w1 (.cells #[.string ⟨s.name.toArray⟩, .slice ap s.params.length cp, .int .i64 s.type.kd, .int .i64 s.type.ni, .int .i64 s.type.nj, .int .i64 s.type.nn, .slice at' s.type.kids.length ct, .int .i64 s.body.kd, .int .i64 s.body.ni, .int .i64 s.body.nj, .int .i64 s.body.nn, .slice ab s.body.kids.length cb, .bool s.isDef] 26))
  have KEY : Hid (∀ W, Below (w1.heap.size + 1) (w1.alloc (.cells #[.string ⟨s.name.toArray⟩, .slice ap s.params.length cp, .int .i64 s.type.kd, .int .i64 s.type.ni, .int .i64 s.type.nj, .int .i64 s.type.nn, .slice at' s.type.kids.length ct, .int .i64 s.body.kd, .int .i64 s.body.ni, .int .i64 s.body.nj, .int .i64 s.body.nn, .slice ab s.body.kids.length cb, .bool s.isDef] 26)) W → W.heap[w1.heap.size]? = some (.cells #[.string ⟨s.name.toArray⟩, .slice ap s.params.length cp, .int .i64 s.type.kd, .int .i64 s.type.ni, .int .i64 s.type.nj, .int .i64 s.type.nn, .slice at' s.type.kids.length ct, .int .i64 s.body.kd, .int .i64 s.body.ni, .int .i64 s.body.nj, .int .i64 s.body.nn, .slice ab s.body.kids.length cb, .bool s.isDef] 26 (0, 0))) := Lib.hid (fun W h => (h.block _ (by omega)).trans HX1.out)
  have KB : Hid (∀ W, Below (w1.heap.size + 1) (w1.alloc (.cells #[.string ⟨s.name.toArray⟩, .slice ap s.params.length cp, .int .i64 s.type.kd, .int .i64 s.type.ni, .int .i64 s.type.nj, .int .i64 s.type.nn, .slice at' s.type.kids.length ct, .int .i64 s.body.kd, .int .i64 s.body.ni, .int .i64 s.body.nj, .int .i64 s.body.nn, .slice ab s.body.kids.length cb, .bool s.isDef] 26)) W → Below w1.heap.size w1 W) := Lib.hid (fun W h => HBX.out.trans (h.mono (by omega)))
  clear hb1 hp hty hbd
  unfold symCells
  obtain ⟨σ, f, hne, hf, hcov⟩ := fam (w1.heap.size + 1) (w1.alloc (.cells #[.string ⟨s.name.toArray⟩, .slice ap s.params.length cp, .int .i64 s.type.kd, .int .i64 s.type.ni, .int .i64 s.type.nj, .int .i64 s.type.nn, .slice at' s.type.kids.length ct, .int .i64 s.body.kd, .int .i64 s.body.ni, .int .i64 s.body.nj, .int .i64 s.body.nn, .slice ab s.body.kids.length cb, .bool s.isDef] 26)) (by simp)
  have HFF := Lib.hid hf
  have HCOV := Lib.hid hcov
  clear hf hcov
  have hc0 : ∀ s', (f s').cell? ⟨w1.heap.size, 0, none⟩ = some (.string ⟨s.name.toArray⟩) := fun s' => (cells13 (KEY.out _ (HFF.out s').1)).1
  have hc1 : ∀ s', (f s').cell? ⟨w1.heap.size, 1, none⟩ = some (.slice ap s.params.length cp) := fun s' => (cells13 (KEY.out _ (HFF.out s').1)).2.1
  have hc2 : ∀ s', (f s').cell? ⟨w1.heap.size, 2, none⟩ = some (.int .i64 s.type.kd) := fun s' => (cells13 (KEY.out _ (HFF.out s').1)).2.2.1
  have hc3 : ∀ s', (f s').cell? ⟨w1.heap.size, 3, none⟩ = some (.int .i64 s.type.ni) := fun s' => (cells13 (KEY.out _ (HFF.out s').1)).2.2.2.1
  have hc4 : ∀ s', (f s').cell? ⟨w1.heap.size, 4, none⟩ = some (.int .i64 s.type.nj) := fun s' => (cells13 (KEY.out _ (HFF.out s').1)).2.2.2.2.1
  have hc5 : ∀ s', (f s').cell? ⟨w1.heap.size, 5, none⟩ = some (.int .i64 s.type.nn) := fun s' => (cells13 (KEY.out _ (HFF.out s').1)).2.2.2.2.2.1
  have hc6 : ∀ s', (f s').cell? ⟨w1.heap.size, 6, none⟩ = some (.slice at' s.type.kids.length ct) := fun s' => (cells13 (KEY.out _ (HFF.out s').1)).2.2.2.2.2.2.1
  have hc7 : ∀ s', (f s').cell? ⟨w1.heap.size, 7, none⟩ = some (.int .i64 s.body.kd) := fun s' => (cells13 (KEY.out _ (HFF.out s').1)).2.2.2.2.2.2.2.1
  have hc8 : ∀ s', (f s').cell? ⟨w1.heap.size, 8, none⟩ = some (.int .i64 s.body.ni) := fun s' => (cells13 (KEY.out _ (HFF.out s').1)).2.2.2.2.2.2.2.2.1
  have hc9 : ∀ s', (f s').cell? ⟨w1.heap.size, 9, none⟩ = some (.int .i64 s.body.nj) := fun s' => (cells13 (KEY.out _ (HFF.out s').1)).2.2.2.2.2.2.2.2.2.1
  have hc10 : ∀ s', (f s').cell? ⟨w1.heap.size, 10, none⟩ = some (.int .i64 s.body.nn) := fun s' => (cells13 (KEY.out _ (HFF.out s').1)).2.2.2.2.2.2.2.2.2.2.1
  have hc11 : ∀ s', (f s').cell? ⟨w1.heap.size, 11, none⟩ = some (.slice ab s.body.kids.length cb) := fun s' => (cells13 (KEY.out _ (HFF.out s').1)).2.2.2.2.2.2.2.2.2.2.2.1
  have hc12 : ∀ s', (f s').cell? ⟨w1.heap.size, 12, none⟩ = some (.bool s.isDef) := fun s' => (cells13 (KEY.out _ (HFF.out s').1)).2.2.2.2.2.2.2.2.2.2.2.2.1
  have HBF : Hid (∀ s', Below w1.heap.size w1 (f s')) := Lib.hid (fun s' => KB.out _ (HFF.out s').1)
  go_upto_region 4 with fail
  refine wp_region_fam_lit f (by kernel_rfl) (by kernel_rfl) (HCOV.out _ (Below.refl _ _).drew) ?_
  repeat (go_big_quiet_step ((first
    | (go_at_call 12; exact calls_fam HFF.out HCOV.out (kids_isV HOK.out.len.symm))
    | (go_at_call 13; exact calls_fam HFF.out HCOV.out (rname_is _ _ s.name (by constructor <;> omega) HOK.out.name.symm))
    | (go_at_call 14; exact calls_fam HFF.out HCOV.out (plain_is (HR.out.2.2.kept (HBF.out _)) HOK.out.body)))))
  refine wpQuiet_nil ?_
  rintro _ ⟨σ1, rfl⟩
  go_wp2_with fail
  have HB4 : Hid (Below (w1.heap.size + 1) (w1.alloc (.cells #[.string ⟨s.name.toArray⟩, .slice ap s.params.length cp, .int .i64 s.type.kd, .int .i64 s.type.ni, .int .i64 s.type.nj, .int .i64 s.type.nn, .slice at' s.type.kids.length ct, .int .i64 s.body.kd, .int .i64 s.body.ni, .int .i64 s.body.nj, .int .i64 s.body.nn, .slice ab s.body.kids.length cb, .bool s.isDef] 26)) (f σ1)) := Lib.hid (HFF.out σ1).1
  clear hc0 hc1 hc2 hc3 hc4 hc5 hc6 hc7 hc8 hc9 hc10 hc11 hc12
  generalize f σ1 = W4 at *
  go_loopw [9] (fun ix wr => ∃ (q : Nat), ix = .int .i64 q ∧ q ≤ s.params.length ∧ Below (w1.heap.size + 1) (w1.alloc (.cells #[.string ⟨s.name.toArray⟩, .slice ap s.params.length cp, .int .i64 s.type.kd, .int .i64 s.type.ni, .int .i64 s.type.nj, .int .i64 s.type.nn, .slice at' s.type.kids.length ct, .int .i64 s.body.kd, .int .i64 s.body.ni, .int .i64 s.body.nj, .int .i64 s.body.nn, .slice ab s.body.kids.length cb, .bool s.isDef] 26)) wr) (fun i _ => s.params.length - (intOf i).toNat)
  case atStart => exact ⟨0, rfl, by omega, HB4.out⟩
  case round =>
    obtain ⟨q, rfl, hq, hbel⟩ := hrel
    have HB := Lib.hid hbel
    have hsz : w1.heap.size + 1 ≤ wr.heap.size := by have := hbel.size; simpa using this
    by_cases hlt : q < s.params.length
    · obtain ⟨b, o, k1, i1, j1, n1, l1, v1, rfl, _, hbs, hj1, e0, e1, e2, e3, e4, hr1, hk1⟩ := (HR.out.1.kept (KB.out _ hbel)).at q hlt
      obtain ⟨hpl1, hfr1⟩ := paramsOK_at HOK.out.params hj1
      rw [Nat.zero_add] at hfr1
      have hfr := freeOf_le hfr1
      have HP1 := Lib.hid (And.intro hpl1 hk1)
      have hbx : w1.heap.size < wr.heap.size := by omega
      obtain ⟨ft, hft⟩ : ∃ ft, freeOf (.node k1 i1 j1 n1 l1) = ft := ⟨_, rfl⟩
      rw [hft] at hfr
      have HFT := Lib.hid hft
      have hle : decide ((q : Int) < ft) = false := decide_eq_false (by omega)
      have s1 : wr.cell? ⟨w1.heap.size, 1, none⟩ = some (.slice (some ⟨b, o, none⟩) s.params.length cp) := (cells13 (KEY.out _ hbel)).2.1
      clear hbel hpl1 hfr1 hfr hk1 hft hr1 hj1
      go_wp2_with fail
      refine (plain_node HP1.out.2 HP1.out.1).mono ?_
      rintro e w2 ⟨rfl, hb2⟩
      have HB2 := Lib.hid (HB.out.trans (hb2.mono (by have := HB.out.size; simpa using this)))
      have q0 := (hb2.cell (p := ⟨b, o + q * 5, none⟩) hbs).trans e0
      have q1 := (hb2.cell (p := ⟨b, o + q * 5 + 1, none⟩) hbs).trans e1
      have q2 := (hb2.cell (p := ⟨b, o + q * 5 + 2, none⟩) hbs).trans e2
      have q3 := (hb2.cell (p := ⟨b, o + q * 5 + 3, none⟩) hbs).trans e3
      have q4 := (hb2.cell (p := ⟨b, o + q * 5 + 4, none⟩) hbs).trans e4
      have t1 := (hb2.cell (p := ⟨w1.heap.size, 1, none⟩) hbx).trans s1
      have HP2 := Lib.hid (HP1.out.2.kept hb2)
      clear e0 e1 e2 e3 e4 s1 hb2
      go_wp2_with fail
      refine (free_node HP2.out HFT.out).mono ?_
      rintro e w3 ⟨rfl, hb3⟩
      have HB3 := Lib.hid (HB2.out.trans (hb3.mono (by have := HB2.out.size; simpa using this)))
      clear hb3 q0 q1 q2 q3 q4 t1
      go_wp2
      go_round
      case rel => exact ⟨q + 1, by go_num, by omega, HB3.out⟩
      case measure => simp [intOf]; omega
    · obtain rfl : q = s.params.length := by omega
      have s1 : wr.cell? ⟨w1.heap.size, 1, none⟩ = some (.slice ap s.params.length cp) := (cells13 (KEY.out _ hbel)).2.1
      clear hbel hlt
      obtain ⟨ft, hft⟩ : ∃ ft, freeOf s.type = ft := ⟨_, rfl⟩
      obtain ⟨fb, hfb⟩ : ∃ fb, freeOf s.body = fb := ⟨_, rfl⟩
      have hle1 : decide (ft ≤ (s.params.length : Int)) = true := decide_eq_true (by rw [← hft]; exact freeOf_le HOK.out.typeF)
      have hle2 : decide (fb ≤ (s.params.length : Int)) = true := decide_eq_true (by rw [← hfb]; exact freeOf_le HOK.out.bodyF)
      have HFT := Lib.hid (And.intro hft hfb)
      clear hft hfb
      go_upto_region 11 with fail
      obtain ⟨σ2, f2, hne2, hf2, hcov2⟩ := fam (w1.heap.size + 1) wr hsz
      have HFF2 := Lib.hid hf2
      have HCOV2 := Lib.hid hcov2
      clear hf2 hcov2 s1
      have HFW : Hid (∀ s', Below (w1.heap.size + 1) (w1.alloc (.cells #[.string ⟨s.name.toArray⟩, .slice ap s.params.length cp, .int .i64 s.type.kd, .int .i64 s.type.ni, .int .i64 s.type.nj, .int .i64 s.type.nn, .slice at' s.type.kids.length ct, .int .i64 s.body.kd, .int .i64 s.body.ni, .int .i64 s.body.nj, .int .i64 s.body.nn, .slice ab s.body.kids.length cb, .bool s.isDef] 26)) (f2 s')) := Lib.hid (fun s' => HB.out.trans (HFF2.out s').1)
      have hd0 : ∀ s', (f2 s').cell? ⟨w1.heap.size, 0, none⟩ = some (.string ⟨s.name.toArray⟩) := fun s' => (cells13 (KEY.out _ (HFW.out s'))).1
      have hd1 : ∀ s', (f2 s').cell? ⟨w1.heap.size, 1, none⟩ = some (.slice ap s.params.length cp) := fun s' => (cells13 (KEY.out _ (HFW.out s'))).2.1
      have hd2 : ∀ s', (f2 s').cell? ⟨w1.heap.size, 2, none⟩ = some (.int .i64 s.type.kd) := fun s' => (cells13 (KEY.out _ (HFW.out s'))).2.2.1
      have hd3 : ∀ s', (f2 s').cell? ⟨w1.heap.size, 3, none⟩ = some (.int .i64 s.type.ni) := fun s' => (cells13 (KEY.out _ (HFW.out s'))).2.2.2.1
      have hd4 : ∀ s', (f2 s').cell? ⟨w1.heap.size, 4, none⟩ = some (.int .i64 s.type.nj) := fun s' => (cells13 (KEY.out _ (HFW.out s'))).2.2.2.2.1
      have hd5 : ∀ s', (f2 s').cell? ⟨w1.heap.size, 5, none⟩ = some (.int .i64 s.type.nn) := fun s' => (cells13 (KEY.out _ (HFW.out s'))).2.2.2.2.2.1
      have hd6 : ∀ s', (f2 s').cell? ⟨w1.heap.size, 6, none⟩ = some (.slice at' s.type.kids.length ct) := fun s' => (cells13 (KEY.out _ (HFW.out s'))).2.2.2.2.2.2.1
      have hd7 : ∀ s', (f2 s').cell? ⟨w1.heap.size, 7, none⟩ = some (.int .i64 s.body.kd) := fun s' => (cells13 (KEY.out _ (HFW.out s'))).2.2.2.2.2.2.2.1
      have hd8 : ∀ s', (f2 s').cell? ⟨w1.heap.size, 8, none⟩ = some (.int .i64 s.body.ni) := fun s' => (cells13 (KEY.out _ (HFW.out s'))).2.2.2.2.2.2.2.2.1
      have hd9 : ∀ s', (f2 s').cell? ⟨w1.heap.size, 9, none⟩ = some (.int .i64 s.body.nj) := fun s' => (cells13 (KEY.out _ (HFW.out s'))).2.2.2.2.2.2.2.2.2.1
      have hd10 : ∀ s', (f2 s').cell? ⟨w1.heap.size, 10, none⟩ = some (.int .i64 s.body.nn) := fun s' => (cells13 (KEY.out _ (HFW.out s'))).2.2.2.2.2.2.2.2.2.2.1
      have hd11 : ∀ s', (f2 s').cell? ⟨w1.heap.size, 11, none⟩ = some (.slice ab s.body.kids.length cb) := fun s' => (cells13 (KEY.out _ (HFW.out s'))).2.2.2.2.2.2.2.2.2.2.2.1
      have hd12 : ∀ s', (f2 s').cell? ⟨w1.heap.size, 12, none⟩ = some (.bool s.isDef) := fun s' => (cells13 (KEY.out _ (HFW.out s'))).2.2.2.2.2.2.2.2.2.2.2.2.1
      have HBF2 : Hid (∀ s', Below w1.heap.size w1 (f2 s')) := Lib.hid (fun s' => KB.out _ (HFW.out s'))
      refine wp_region_fam_lit f2 (by kernel_rfl) (by kernel_rfl) (HCOV2.out _ (Below.refl _ _).drew) ?_
      repeat (go_big_quiet_step ((first
        | (go_at_call 14; exact calls_fam HFF2.out HCOV2.out (plain_is (HR.out.2.1.kept (HBF2.out _)) HOK.out.type))
        | (go_at_call_of 15 (Value.agg #[.int .i64 s.type.kd, .int .i64 s.type.ni, .int .i64 s.type.nj, .int .i64 s.type.nn, .slice at' s.type.kids.length ct]); exact calls_fam HFF2.out HCOV2.out (free_isV (HR.out.2.1.kept (HBF2.out _)) HFT.out.1))
        | (go_at_call 15; exact calls_fam HFF2.out HCOV2.out (free_isV (HR.out.2.2.kept (HBF2.out _)) HFT.out.2))
        | (go_at_call 10; exact calls_fam HFF2.out HCOV2.out (wakes17 _ (HT.out.below (HB1.out.trans ((HBF2.out _).mono HB1.out.size))))))))
      refine wpQuiet_nil ?_
      rintro _ ⟨σ3, rfl⟩
      go_wp2
      go_ret
      exact ⟨rfl, HB1.out.trans ((HBF2.out σ3).mono HB1.out.size)⟩
theorem sigShape_walk (n i j : Int) (w : World) (ht : Tab w) :
    Calls Tryd.prog 5 #[.int .i64 n, .int .i64 i, .int .i64 j] w fun e w' => e = .returned (.bool true) ∧ Below w.heap.size w w' := by
  rcases Classical.em (NoSym n i j) with hn | hn
  · exact sigShape_none n i j hn w ht
  · obtain ⟨m, I, J, s, s0, rfl, rfl, rfl, hm, _, _, _, _, _, hok, hat⟩ := at_any n i j hn
    exact sigShape_sym m I J hm hok w ht (hat w ht)
end Go.Proofs.YtfklmcmoackepaaDoor
