/- Walk of the reader's list. The letters behind a list's word say what the page's reader does; walk of the reader's term. -/
import Derived.Test.YtfklmcmoackepaaDoorSt
namespace Go.Proofs.YtfklmcmoackepaaDoor
open Go.RowKit

/-- what stands behind a list's word, letter by letter -/
def listM (E : REnv) (F : List (List UInt8) → Nat → Nat → RR TT) (nm : List (List UInt8)) (kd : Nat) (shape : List UInt8) (k : Nat) : RR TT :=
  (itemsM E F nm kd shape ⟨0, 0, 0, [], []⟩ k).bind fun s k => closeM E kd s.n s.i s.j s.kids k

set_option maxHeartbeats 8000000 in
set_option maxRecDepth 1000000 in
theorem list_any {E : REnv} {lv : Value} {en : Int} {b : Nat} {w : World} {nv : Value} {nm : List (List UInt8)} {k0 kd : Nat} {shape : List UInt8} {fuel : Nat} (hkd : kd ≤ 23) (ih : TermC E lv en b fuel) (hf : E.l.length < k0 + fuel) (hnl : nm.length + E.l.length ≤ 2199023255552 + k0) (h : Rr E lv en b w nv nm (.ok k0)) (hsh : shape.length ≤ 8)
    (hlet : ∀ c ∈ shape, c = 76 ∨ c = 77 ∨ c = 83 ∨ c = 120 ∨ c = 121 ∨ c = 101 ∨ c = 116 ∨ c = 112 ∨ c = 98 ∨ c = 80) :
    Calls Tryd.prog 49 #[.pointer (some ⟨b, 0, none⟩), .int .i64 kd, .string ⟨shape.toArray⟩] w (TermPost E lv en b w nv nm (listM E (termM E fuel) nm kd shape k0)) := by
  have IH := Lib.hid ih
  have H0 := Lib.hid h
  obtain ⟨anv, cnv, rfl⟩ : ∃ a c, nv = .slice a nm.length c := by
    rcases h.hasN.2 with ⟨rfl, h0⟩ | ⟨bt, o, c, rfl, _⟩
    · exact ⟨none, 0, by rw [h0]⟩
    · exact ⟨_, _, rfl⟩
  have HA := Lib.hid (h.kept (below_alloc w (.cells #[.int .i64 0, .int .i64 0, .int .i64 0, .int .i64 0, .slice none 0 0] 24)))
  have HREL : Hid (LRel E lv en b w kd k0 shape (.slice anv nm.length cnv) nm (termM E fuel) (itemsM E (termM E fuel) nm kd shape ⟨0, 0, 0, [], []⟩ k0) (.slice none 0 0) 0 ((w.alloc (.cells #[.int .i64 0, .int .i64 0, .int .i64 0, .int .i64 0, .slice none 0 0] 24)).alloc (.cells #[.int .i64 kd, .int .i64 0, .int .i64 0, .int .i64 0, .slice none 0 0] 24))) := Lib.hid (by
    have hb2 := (below_alloc w (.cells #[.int .i64 0, .int .i64 0, .int .i64 0, .int .i64 0, .slice none 0 0] 24)).trans ((below_alloc (w.alloc (.cells #[.int .i64 0, .int .i64 0, .int .i64 0, .int .i64 0, .slice none 0 0] 24)) (.cells #[.int .i64 kd, .int .i64 0, .int .i64 0, .int .i64 0, .slice none 0 0] 24)).mono (by simp))
    refine ⟨.ok k0, ⟨0, 0, 0, [], []⟩, [], .slice none 0 0, ?_, by simp, by simp, by omega, by simp, rfl, Nat.le_refl _, by simp, rfl⟩
    have hres : ((w.alloc (.cells #[.int .i64 0, .int .i64 0, .int .i64 0, .int .i64 0, .slice none 0 0] 24)).alloc (.cells #[.int .i64 kd, .int .i64 0, .int .i64 0, .int .i64 0, .slice none 0 0] 24)).heap[w.heap.size]? = some (.cells zero5 24 (0, 0)) :=
      (Lib.alloc_old _ _ _ (by simp)).trans (new_heap _ _ _)
    have hbox : ((w.alloc (.cells #[.int .i64 0, .int .i64 0, .int .i64 0, .int .i64 0, .slice none 0 0] 24)).alloc (.cells #[.int .i64 kd, .int .i64 0, .int .i64 0, .int .i64 0, .slice none 0 0] 24)).heap[w.heap.size + 1]? = some (.cells #[.int .i64 kd, .int .i64 0, .int .i64 0, .int .i64 0, .slice none 0 0] 24 (0, 0)) := by
      have := new_heap (w.alloc (.cells #[.int .i64 0, .int .i64 0, .int .i64 0, .int .i64 0, .slice none 0 0] 24)) #[.int .i64 kd, .int .i64 0, .int .i64 0, .int .i64 0, .slice none 0 0] 24
      simpa using this
    exact { old := h.lt, lvs := h.has.own_lt, nvs := fun x hx => ⟨by have := h.hasN.own_lt x hx; omega, by simp [Value.ownBlock]⟩, tn := ⟨h.kept hb2, grown_below hb2⟩, res := hres, box := hbox, own := World.ownsRow_nil _ _ _ _, ownb := World.ownsRow_nil _ _ _ _, kids := fun _ p hp => by cases hp })
  obtain ⟨c0, c1, c2, c3, c4, c5, c6, c7⟩ := HA.out.at
  clear h ih
  unfold listM
  by_cases h12 : kd ≤ 12
  · have h12' : decide ((kd : Int) ≤ 12) = true := by simp; omega
    have HOF : Hid (1 = ofL kd) := Lib.hid (by unfold ofL; rw [if_pos h12])
    clear h12
    go_enter Tryd.func49, Tryd.ntmps49
    go_wp2_with fail
    refine lloop (k0 := k0) (ofl := 1) (total := itemsM E (termM E fuel) nm kd shape ⟨0, 0, 0, [], []⟩ k0) rfl IH.out hf hnl HOF.out H0.out hsh hlet _ _ ?_ HREL.out
    intro a' w'' hWX
    unfold WX at hWX
    obtain ⟨bv, hWX⟩ := hWX
    obtain ⟨p, hWX⟩ := hWX
    obtain ⟨u20, hWX⟩ := hWX
    obtain ⟨u21, hWX⟩ := hWX
    obtain ⟨u22, hWX⟩ := hWX
    obtain ⟨u23, hWX⟩ := hWX
    obtain ⟨u24, hWX⟩ := hWX
    obtain ⟨u25, hWX⟩ := hWX
    obtain ⟨u26, hWX⟩ := hWX
    obtain ⟨u27, hWX⟩ := hWX
    obtain ⟨u28, hWX⟩ := hWX
    obtain ⟨u29, hWX⟩ := hWX
    obtain ⟨u30, hWX⟩ := hWX
    obtain ⟨u31, hWX⟩ := hWX
    obtain ⟨u32, hWX⟩ := hWX
    obtain ⟨u33, hWX⟩ := hWX
    obtain ⟨u34, hWX⟩ := hWX
    obtain ⟨u35, hWX⟩ := hWX
    obtain ⟨u36, hWX⟩ := hWX
    obtain ⟨u37, hWX⟩ := hWX
    obtain ⟨u38, hWX⟩ := hWX
    obtain ⟨u39, hWX⟩ := hWX
    obtain ⟨u40, hWX⟩ := hWX
    obtain ⟨u41, hWX⟩ := hWX
    obtain ⟨u42, hWX⟩ := hWX
    obtain ⟨u43, hWX⟩ := hWX
    obtain ⟨u44, hWX⟩ := hWX
    obtain ⟨u45, hWX⟩ := hWX
    obtain ⟨u46, hWX⟩ := hWX
    obtain ⟨u47, hWX⟩ := hWX
    obtain ⟨u48, hWX⟩ := hWX
    obtain ⟨u49, hWX⟩ := hWX
    obtain ⟨u50, hWX⟩ := hWX
    obtain ⟨u51, hWX⟩ := hWX
    obtain ⟨u52, hWX⟩ := hWX
    obtain ⟨u53, hWX⟩ := hWX
    obtain ⟨u54, hWX⟩ := hWX
    obtain ⟨u55, hWX⟩ := hWX
    obtain ⟨u56, hWX⟩ := hWX
    obtain ⟨u57, hWX⟩ := hWX
    obtain ⟨u58, hWX⟩ := hWX
    obtain ⟨u59, hWX⟩ := hWX
    obtain ⟨u60, hWX⟩ := hWX
    obtain ⟨u61, hWX⟩ := hWX
    obtain ⟨u62, hWX⟩ := hWX
    obtain ⟨u63, hWX⟩ := hWX
    obtain ⟨u64, hWX⟩ := hWX
    obtain ⟨u65, hWX⟩ := hWX
    obtain ⟨u66, hWX⟩ := hWX
    obtain ⟨u67, hWX⟩ := hWX
    obtain ⟨u68, hWX⟩ := hWX
    obtain ⟨u69, hWX⟩ := hWX
    obtain ⟨u70, hWX⟩ := hWX
    obtain ⟨u71, hWX⟩ := hWX
    obtain ⟨u72, hWX⟩ := hWX
    obtain ⟨u73, hWX⟩ := hWX
    obtain ⟨u74, hWX⟩ := hWX
    obtain ⟨u75, hWX⟩ := hWX
    obtain ⟨u76, hWX⟩ := hWX
    obtain ⟨u77, hWX⟩ := hWX
    obtain ⟨u78, hWX⟩ := hWX
    obtain ⟨u79, hWX⟩ := hWX
    obtain ⟨u80, hWX⟩ := hWX
    obtain ⟨u81, hWX⟩ := hWX
    obtain ⟨u82, hWX⟩ := hWX
    obtain ⟨u83, hWX⟩ := hWX
    obtain ⟨u84, hWX⟩ := hWX
    obtain ⟨u85, hWX⟩ := hWX
    obtain ⟨u86, hWX⟩ := hWX
    obtain ⟨u87, hWX⟩ := hWX
    obtain ⟨u88, hWX⟩ := hWX
    obtain ⟨u89, hWX⟩ := hWX
    obtain ⟨u90, hWX⟩ := hWX
    obtain ⟨u91, hWX⟩ := hWX
    obtain ⟨u92, hWX⟩ := hWX
    obtain ⟨u93, hWX⟩ := hWX
    obtain ⟨u94, hWX⟩ := hWX
    obtain ⟨u95, hWX⟩ := hWX
    obtain ⟨u96, hWX⟩ := hWX
    obtain ⟨u97, hWX⟩ := hWX
    obtain ⟨u98, hWX⟩ := hWX
    obtain ⟨u99, hWX⟩ := hWX
    obtain ⟨u100, hWX⟩ := hWX
    obtain ⟨u101, hWX⟩ := hWX
    obtain ⟨u102, hWX⟩ := hWX
    obtain ⟨u103, hWX⟩ := hWX
    obtain ⟨u104, hWX⟩ := hWX
    obtain ⟨u105, hWX⟩ := hWX
    obtain ⟨u106, hWX⟩ := hWX
    obtain ⟨u107, hWX⟩ := hWX
    obtain ⟨u108, hWX⟩ := hWX
    obtain ⟨u109, hWX⟩ := hWX
    obtain ⟨u110, hWX⟩ := hWX
    obtain ⟨u111, hWX⟩ := hWX
    obtain ⟨u112, hWX⟩ := hWX
    obtain ⟨u113, hWX⟩ := hWX
    obtain ⟨u114, hWX⟩ := hWX
    obtain ⟨u115, hWX⟩ := hWX
    obtain ⟨u116, hWX⟩ := hWX
    obtain ⟨u117, hWX⟩ := hWX
    obtain ⟨u118, hWX⟩ := hWX
    obtain ⟨⟨m, s, rows, v, hG, hb3, hmd, hval⟩, rfl⟩ := hWX
    have HG := Lib.hid hG
    have HB := Lib.hid hb3
    have HV := Lib.hid hval
    have HT := Lib.hid hmd
    obtain ⟨av, cv, rfl⟩ := own_form hG.own
    clear hG hb3 hval hmd
    obtain ⟨total, htot⟩ : ∃ t, itemsM E (termM E fuel) nm kd shape ⟨0, 0, 0, [], []⟩ k0 = t := ⟨_, rfl⟩
    rw [htot] at HT HV
    have HTOT := Lib.hid htot
    clear htot
    cases m with
    | bad q =>
      have HRES : Hid ((itemsM E (termM E fuel) nm kd shape ⟨0, 0, 0, [], []⟩ k0).bind (fun s k => closeM E kd s.n s.i s.j s.kids k) = .bad q) := Lib.hid (by
        rw [HTOT.out]
        have := HT.out
        cases total with
        | ok s' k' => cases this
        | bad q' => cases this; rfl)
      clear HT HV
      go_wp2_with fail
      refine (next_bad 2 HG.out.tn.1).mono ?_
      rintro e w3 ⟨rfl, ht3⟩
      have HG3 := Lib.hid (HG.out.move ht3 id)
      clear ht3
      obtain ⟨e0, e1, e2, e3, e4, q0, q1, q2, q3, q4⟩ := cells5 HG3.out.box
      obtain ⟨r0, r1, r2, r3, r4, g0, g1, g2, g3, g4⟩ := cells5 HG3.out.res
      go_wp2
      have hset := set5_at HG3.out.res (.int .i64 kd) (.int .i64 s.i) (.int .i64 s.j) (.int .i64 s.n) (.slice av rows.length cv)
      have htn := set5_turn H0.out (Nat.le_refl _) HG3.out.tn (.int .i64 kd) (.int .i64 s.i) (.int .i64 s.j) (.int .i64 s.n) (.slice av rows.length cv)
      unfold set5 at hset htn
      obtain ⟨x0, x1, x2, x3, x4, _⟩ := cells5 hset
      refine bodyPost_ret (v := termV kd s.i s.j s.n (.slice av rows.length cv)) (by simp [results, Tryd.results49, go_sem, x0, x1, x2, x3, x4, termV]) rfl ?_
      rw [HRES.out]
      exact ⟨.node kd s.i s.j s.n [], av, rows.length, cv, rfl, htn, fun t' k' h => by cases h⟩
    | ok k =>
      have HTT : Hid (total = .ok s k ∧ rows.map Prod.fst = s.kids) := Lib.hid (by
        have h1 := HT.out
        have h2 := HV.out
        cases total with
        | ok s' k' => cases h1; obtain ⟨rfl, h3⟩ := h2 _ _ rfl; exact ⟨rfl, h3⟩
        | bad q' => cases h1)
      clear HT HV
      by_cases hk2 : kindAt E.l k = 2
      · have HRES : Hid ((itemsM E (termM E fuel) nm kd shape ⟨0, 0, 0, [], []⟩ k0).bind (fun s k => closeM E kd s.n s.i s.j s.kids k) = .ok (.node kd s.i s.j s.n s.kids) (k + 1)) := Lib.hid (by
          rw [HTOT.out, HTT.out.1]; simp only [RR.bind_ok, closeM]; rw [if_pos hk2])
        go_wp2_with fail
        refine (next_ok 2 (by decide) hk2 HG.out.tn.1).mono ?_
        rintro e w3 ⟨rfl, ht3⟩
        have HG3 := Lib.hid (HG.out.move ht3 (fun _ => rfl))
        clear ht3 hk2
        obtain ⟨e0, e1, e2, e3, e4, q0, q1, q2, q3, q4⟩ := cells5 HG3.out.box
        obtain ⟨r0, r1, r2, r3, r4, g0, g1, g2, g3, g4⟩ := cells5 HG3.out.res
        go_wp2
        have hset := set5_at HG3.out.res (.int .i64 kd) (.int .i64 s.i) (.int .i64 s.j) (.int .i64 s.n) (.slice av rows.length cv)
        have htn := set5_turn H0.out (Nat.le_refl _) HG3.out.tn (.int .i64 kd) (.int .i64 s.i) (.int .i64 s.j) (.int .i64 s.n) (.slice av rows.length cv)
        have hrep : RepTS w3 (fun x => w.heap.size + 2 ≤ x) (rows.map Prod.fst) (.slice av rows.length cv) := repTS_of_owns HG3.out.own (fun g hg => (HG3.out.own.lt g hg).1) (fun p hp => ⟨(HG3.out.kids rfl p hp).1.kept (Nat.le_refl _) fun x hx _ => ⟨rfl, hx.1⟩, (HG3.out.kids rfl p hp).2⟩)
        have hrep2 : RepTS (set5 w3 w.heap.size (.int .i64 kd) (.int .i64 s.i) (.int .i64 s.j) (.int .i64 s.n) (.slice av rows.length cv)) (fun x => w.heap.size ≤ x) (rows.map Prod.fst) (.slice av rows.length cv) :=
          hrep.kept (by rw [set5_size]; exact Nat.le_refl _) fun x hx _ => ⟨set5_other _ _ _ _ _ _ _ (by omega), by omega⟩
        rw [HTT.out.2] at hrep2
        unfold set5 at hset htn hrep2
        obtain ⟨x0, x1, x2, x3, x4, _⟩ := cells5 hset
        refine bodyPost_ret (v := termV kd s.i s.j s.n (.slice av rows.length cv)) (by simp [results, Tryd.results49, go_sem, x0, x1, x2, x3, x4, termV]) rfl ?_
        rw [HRES.out]
        refine ⟨.node kd s.i s.j s.n s.kids, av, rows.length, cv, rfl, htn, fun t' k' h => ?_⟩
        cases h
        have hb := HB.out
        exact ⟨rfl, hrep2, ⟨by simp only [TT.kd]; omega, by simp only [TT.kd]; omega⟩, ⟨by simp only [TT.ni]; omega, by simp only [TT.ni]; omega⟩, ⟨by simp only [TT.nj]; omega, by simp only [TT.nj]; omega⟩, ⟨by simp only [TT.nn]; omega, by simp only [TT.nn]; omega⟩⟩
      · have HRES : Hid ((itemsM E (termM E fuel) nm kd shape ⟨0, 0, 0, [], []⟩ k0).bind (fun s k => closeM E kd s.n s.i s.j s.kids k) = .bad k) := Lib.hid (by
          rw [HTOT.out, HTT.out.1]; simp only [RR.bind_ok, closeM]; rw [if_neg hk2])
        go_wp2_with fail
        refine (next_miss 2 (by decide) hk2 HG.out.tn.1).mono ?_
        rintro e w3 ⟨rfl, ht3⟩
        have HG3 := Lib.hid (HG.out.move ht3 (fun h => by cases h))
        clear ht3 hk2
        obtain ⟨e0, e1, e2, e3, e4, q0, q1, q2, q3, q4⟩ := cells5 HG3.out.box
        obtain ⟨r0, r1, r2, r3, r4, g0, g1, g2, g3, g4⟩ := cells5 HG3.out.res
        go_wp2
        have hset := set5_at HG3.out.res (.int .i64 kd) (.int .i64 s.i) (.int .i64 s.j) (.int .i64 s.n) (.slice av rows.length cv)
        have htn := set5_turn H0.out (Nat.le_refl _) HG3.out.tn (.int .i64 kd) (.int .i64 s.i) (.int .i64 s.j) (.int .i64 s.n) (.slice av rows.length cv)
        unfold set5 at hset htn
        obtain ⟨x0, x1, x2, x3, x4, _⟩ := cells5 hset
        refine bodyPost_ret (v := termV kd s.i s.j s.n (.slice av rows.length cv)) (by simp [results, Tryd.results49, go_sem, x0, x1, x2, x3, x4, termV]) rfl ?_
        rw [HRES.out]
        exact ⟨.node kd s.i s.j s.n [], av, rows.length, cv, rfl, htn, fun t' k' h => by cases h⟩
  · have h12' : decide ((kd : Int) ≤ 12) = false := by simp; omega
    have HOF : Hid (2 = ofL kd) := Lib.hid (by unfold ofL; rw [if_neg h12])
    clear h12
    go_enter Tryd.func49, Tryd.ntmps49
    go_wp2_with fail
    refine lloop (k0 := k0) (ofl := 2) (total := itemsM E (termM E fuel) nm kd shape ⟨0, 0, 0, [], []⟩ k0) rfl IH.out hf hnl HOF.out H0.out hsh hlet _ _ ?_ HREL.out
    intro a' w'' hWX
    unfold WX at hWX
    obtain ⟨bv, hWX⟩ := hWX
    obtain ⟨p, hWX⟩ := hWX
    obtain ⟨u20, hWX⟩ := hWX
    obtain ⟨u21, hWX⟩ := hWX
    obtain ⟨u22, hWX⟩ := hWX
    obtain ⟨u23, hWX⟩ := hWX
    obtain ⟨u24, hWX⟩ := hWX
    obtain ⟨u25, hWX⟩ := hWX
    obtain ⟨u26, hWX⟩ := hWX
    obtain ⟨u27, hWX⟩ := hWX
    obtain ⟨u28, hWX⟩ := hWX
    obtain ⟨u29, hWX⟩ := hWX
    obtain ⟨u30, hWX⟩ := hWX
    obtain ⟨u31, hWX⟩ := hWX
    obtain ⟨u32, hWX⟩ := hWX
    obtain ⟨u33, hWX⟩ := hWX
    obtain ⟨u34, hWX⟩ := hWX
    obtain ⟨u35, hWX⟩ := hWX
    obtain ⟨u36, hWX⟩ := hWX
    obtain ⟨u37, hWX⟩ := hWX
    obtain ⟨u38, hWX⟩ := hWX
    obtain ⟨u39, hWX⟩ := hWX
    obtain ⟨u40, hWX⟩ := hWX
    obtain ⟨u41, hWX⟩ := hWX
    obtain ⟨u42, hWX⟩ := hWX
    obtain ⟨u43, hWX⟩ := hWX
    obtain ⟨u44, hWX⟩ := hWX
    obtain ⟨u45, hWX⟩ := hWX
    obtain ⟨u46, hWX⟩ := hWX
    obtain ⟨u47, hWX⟩ := hWX
    obtain ⟨u48, hWX⟩ := hWX
    obtain ⟨u49, hWX⟩ := hWX
    obtain ⟨u50, hWX⟩ := hWX
    obtain ⟨u51, hWX⟩ := hWX
    obtain ⟨u52, hWX⟩ := hWX
    obtain ⟨u53, hWX⟩ := hWX
    obtain ⟨u54, hWX⟩ := hWX
    obtain ⟨u55, hWX⟩ := hWX
    obtain ⟨u56, hWX⟩ := hWX
    obtain ⟨u57, hWX⟩ := hWX
    obtain ⟨u58, hWX⟩ := hWX
    obtain ⟨u59, hWX⟩ := hWX
    obtain ⟨u60, hWX⟩ := hWX
    obtain ⟨u61, hWX⟩ := hWX
    obtain ⟨u62, hWX⟩ := hWX
    obtain ⟨u63, hWX⟩ := hWX
    obtain ⟨u64, hWX⟩ := hWX
    obtain ⟨u65, hWX⟩ := hWX
    obtain ⟨u66, hWX⟩ := hWX
    obtain ⟨u67, hWX⟩ := hWX
    obtain ⟨u68, hWX⟩ := hWX
    obtain ⟨u69, hWX⟩ := hWX
    obtain ⟨u70, hWX⟩ := hWX
    obtain ⟨u71, hWX⟩ := hWX
    obtain ⟨u72, hWX⟩ := hWX
    obtain ⟨u73, hWX⟩ := hWX
    obtain ⟨u74, hWX⟩ := hWX
    obtain ⟨u75, hWX⟩ := hWX
    obtain ⟨u76, hWX⟩ := hWX
    obtain ⟨u77, hWX⟩ := hWX
    obtain ⟨u78, hWX⟩ := hWX
    obtain ⟨u79, hWX⟩ := hWX
    obtain ⟨u80, hWX⟩ := hWX
    obtain ⟨u81, hWX⟩ := hWX
    obtain ⟨u82, hWX⟩ := hWX
    obtain ⟨u83, hWX⟩ := hWX
    obtain ⟨u84, hWX⟩ := hWX
    obtain ⟨u85, hWX⟩ := hWX
    obtain ⟨u86, hWX⟩ := hWX
    obtain ⟨u87, hWX⟩ := hWX
    obtain ⟨u88, hWX⟩ := hWX
    obtain ⟨u89, hWX⟩ := hWX
    obtain ⟨u90, hWX⟩ := hWX
    obtain ⟨u91, hWX⟩ := hWX
    obtain ⟨u92, hWX⟩ := hWX
    obtain ⟨u93, hWX⟩ := hWX
    obtain ⟨u94, hWX⟩ := hWX
    obtain ⟨u95, hWX⟩ := hWX
    obtain ⟨u96, hWX⟩ := hWX
    obtain ⟨u97, hWX⟩ := hWX
    obtain ⟨u98, hWX⟩ := hWX
    obtain ⟨u99, hWX⟩ := hWX
    obtain ⟨u100, hWX⟩ := hWX
    obtain ⟨u101, hWX⟩ := hWX
    obtain ⟨u102, hWX⟩ := hWX
    obtain ⟨u103, hWX⟩ := hWX
    obtain ⟨u104, hWX⟩ := hWX
    obtain ⟨u105, hWX⟩ := hWX
    obtain ⟨u106, hWX⟩ := hWX
    obtain ⟨u107, hWX⟩ := hWX
    obtain ⟨u108, hWX⟩ := hWX
    obtain ⟨u109, hWX⟩ := hWX
    obtain ⟨u110, hWX⟩ := hWX
    obtain ⟨u111, hWX⟩ := hWX
    obtain ⟨u112, hWX⟩ := hWX
    obtain ⟨u113, hWX⟩ := hWX
    obtain ⟨u114, hWX⟩ := hWX
    obtain ⟨u115, hWX⟩ := hWX
    obtain ⟨u116, hWX⟩ := hWX
    obtain ⟨u117, hWX⟩ := hWX
    obtain ⟨u118, hWX⟩ := hWX
    obtain ⟨⟨m, s, rows, v, hG, hb3, hmd, hval⟩, rfl⟩ := hWX
    have HG := Lib.hid hG
    have HB := Lib.hid hb3
    have HV := Lib.hid hval
    have HT := Lib.hid hmd
    obtain ⟨av, cv, rfl⟩ := own_form hG.own
    clear hG hb3 hval hmd
    obtain ⟨total, htot⟩ : ∃ t, itemsM E (termM E fuel) nm kd shape ⟨0, 0, 0, [], []⟩ k0 = t := ⟨_, rfl⟩
    rw [htot] at HT HV
    have HTOT := Lib.hid htot
    clear htot
    cases m with
    | bad q =>
      have HRES : Hid ((itemsM E (termM E fuel) nm kd shape ⟨0, 0, 0, [], []⟩ k0).bind (fun s k => closeM E kd s.n s.i s.j s.kids k) = .bad q) := Lib.hid (by
        rw [HTOT.out]
        have := HT.out
        cases total with
        | ok s' k' => cases this
        | bad q' => cases this; rfl)
      clear HT HV
      go_wp2_with fail
      refine (next_bad 2 HG.out.tn.1).mono ?_
      rintro e w3 ⟨rfl, ht3⟩
      have HG3 := Lib.hid (HG.out.move ht3 id)
      clear ht3
      obtain ⟨e0, e1, e2, e3, e4, q0, q1, q2, q3, q4⟩ := cells5 HG3.out.box
      obtain ⟨r0, r1, r2, r3, r4, g0, g1, g2, g3, g4⟩ := cells5 HG3.out.res
      go_wp2
      have hset := set5_at HG3.out.res (.int .i64 kd) (.int .i64 s.i) (.int .i64 s.j) (.int .i64 s.n) (.slice av rows.length cv)
      have htn := set5_turn H0.out (Nat.le_refl _) HG3.out.tn (.int .i64 kd) (.int .i64 s.i) (.int .i64 s.j) (.int .i64 s.n) (.slice av rows.length cv)
      unfold set5 at hset htn
      obtain ⟨x0, x1, x2, x3, x4, _⟩ := cells5 hset
      refine bodyPost_ret (v := termV kd s.i s.j s.n (.slice av rows.length cv)) (by simp [results, Tryd.results49, go_sem, x0, x1, x2, x3, x4, termV]) rfl ?_
      rw [HRES.out]
      exact ⟨.node kd s.i s.j s.n [], av, rows.length, cv, rfl, htn, fun t' k' h => by cases h⟩
    | ok k =>
      have HTT : Hid (total = .ok s k ∧ rows.map Prod.fst = s.kids) := Lib.hid (by
        have h1 := HT.out
        have h2 := HV.out
        cases total with
        | ok s' k' => cases h1; obtain ⟨rfl, h3⟩ := h2 _ _ rfl; exact ⟨rfl, h3⟩
        | bad q' => cases h1)
      clear HT HV
      by_cases hk2 : kindAt E.l k = 2
      · have HRES : Hid ((itemsM E (termM E fuel) nm kd shape ⟨0, 0, 0, [], []⟩ k0).bind (fun s k => closeM E kd s.n s.i s.j s.kids k) = .ok (.node kd s.i s.j s.n s.kids) (k + 1)) := Lib.hid (by
          rw [HTOT.out, HTT.out.1]; simp only [RR.bind_ok, closeM]; rw [if_pos hk2])
        go_wp2_with fail
        refine (next_ok 2 (by decide) hk2 HG.out.tn.1).mono ?_
        rintro e w3 ⟨rfl, ht3⟩
        have HG3 := Lib.hid (HG.out.move ht3 (fun _ => rfl))
        clear ht3 hk2
        obtain ⟨e0, e1, e2, e3, e4, q0, q1, q2, q3, q4⟩ := cells5 HG3.out.box
        obtain ⟨r0, r1, r2, r3, r4, g0, g1, g2, g3, g4⟩ := cells5 HG3.out.res
        go_wp2
        have hset := set5_at HG3.out.res (.int .i64 kd) (.int .i64 s.i) (.int .i64 s.j) (.int .i64 s.n) (.slice av rows.length cv)
        have htn := set5_turn H0.out (Nat.le_refl _) HG3.out.tn (.int .i64 kd) (.int .i64 s.i) (.int .i64 s.j) (.int .i64 s.n) (.slice av rows.length cv)
        have hrep : RepTS w3 (fun x => w.heap.size + 2 ≤ x) (rows.map Prod.fst) (.slice av rows.length cv) := repTS_of_owns HG3.out.own (fun g hg => (HG3.out.own.lt g hg).1) (fun p hp => ⟨(HG3.out.kids rfl p hp).1.kept (Nat.le_refl _) fun x hx _ => ⟨rfl, hx.1⟩, (HG3.out.kids rfl p hp).2⟩)
        have hrep2 : RepTS (set5 w3 w.heap.size (.int .i64 kd) (.int .i64 s.i) (.int .i64 s.j) (.int .i64 s.n) (.slice av rows.length cv)) (fun x => w.heap.size ≤ x) (rows.map Prod.fst) (.slice av rows.length cv) :=
          hrep.kept (by rw [set5_size]; exact Nat.le_refl _) fun x hx _ => ⟨set5_other _ _ _ _ _ _ _ (by omega), by omega⟩
        rw [HTT.out.2] at hrep2
        unfold set5 at hset htn hrep2
        obtain ⟨x0, x1, x2, x3, x4, _⟩ := cells5 hset
        refine bodyPost_ret (v := termV kd s.i s.j s.n (.slice av rows.length cv)) (by simp [results, Tryd.results49, go_sem, x0, x1, x2, x3, x4, termV]) rfl ?_
        rw [HRES.out]
        refine ⟨.node kd s.i s.j s.n s.kids, av, rows.length, cv, rfl, htn, fun t' k' h => ?_⟩
        cases h
        have hb := HB.out
        exact ⟨rfl, hrep2, ⟨by simp only [TT.kd]; omega, by simp only [TT.kd]; omega⟩, ⟨by simp only [TT.ni]; omega, by simp only [TT.ni]; omega⟩, ⟨by simp only [TT.nj]; omega, by simp only [TT.nj]; omega⟩, ⟨by simp only [TT.nn]; omega, by simp only [TT.nn]; omega⟩⟩
      · have HRES : Hid ((itemsM E (termM E fuel) nm kd shape ⟨0, 0, 0, [], []⟩ k0).bind (fun s k => closeM E kd s.n s.i s.j s.kids k) = .bad k) := Lib.hid (by
          rw [HTOT.out, HTT.out.1]; simp only [RR.bind_ok, closeM]; rw [if_neg hk2])
        go_wp2_with fail
        refine (next_miss 2 (by decide) hk2 HG.out.tn.1).mono ?_
        rintro e w3 ⟨rfl, ht3⟩
        have HG3 := Lib.hid (HG.out.move ht3 (fun h => by cases h))
        clear ht3 hk2
        obtain ⟨e0, e1, e2, e3, e4, q0, q1, q2, q3, q4⟩ := cells5 HG3.out.box
        obtain ⟨r0, r1, r2, r3, r4, g0, g1, g2, g3, g4⟩ := cells5 HG3.out.res
        go_wp2
        have hset := set5_at HG3.out.res (.int .i64 kd) (.int .i64 s.i) (.int .i64 s.j) (.int .i64 s.n) (.slice av rows.length cv)
        have htn := set5_turn H0.out (Nat.le_refl _) HG3.out.tn (.int .i64 kd) (.int .i64 s.i) (.int .i64 s.j) (.int .i64 s.n) (.slice av rows.length cv)
        unfold set5 at hset htn
        obtain ⟨x0, x1, x2, x3, x4, _⟩ := cells5 hset
        refine bodyPost_ret (v := termV kd s.i s.j s.n (.slice av rows.length cv)) (by simp [results, Tryd.results49, go_sem, x0, x1, x2, x3, x4, termV]) rfl ?_
        rw [HRES.out]
        exact ⟨.node kd s.i s.j s.n [], av, rows.length, cv, rfl, htn, fun t' k' h => by cases h⟩

theorem shapeK_ok : ∀ kd, kd ≤ 23 → (shapeK kd).length ≤ 8 ∧ ∀ c ∈ shapeK kd, c = 76 ∨ c = 77 ∨ c = 83 ∨ c = 120 ∨ c = 121 ∨ c = 101 ∨ c = 116 ∨ c = 112 ∨ c = 98 ∨ c = 80 := by decide
end Go.Proofs.YtfklmcmoackepaaDoor

namespace Go.Proofs.YtfklmcmoackepaaDoor
open Go.RowKit

theorem give_kids {E : REnv} {F : List (List UInt8) → Nat → Nat → RR TT} {outer : List (List UInt8)} : ∀ (c x : Nat) (nm : List (List UInt8)) (acc : List TT) (k : Nat), kidsM E F outer 23 c x nm acc k = giveM F outer c acc k
  | 0, _, _, _, _ => rfl
  | c + 1, x, nm, acc, k => by
    have h1 : bindM E 23 x nm k = .ok nm k := by unfold bindM; rw [if_neg (by omega)]
    have h2 : ¬ 0 < bindsK ((23 : Nat) : Int) x := by simp [bindsK]
    have h3 : (ofK ((23 : Nat) : Int) x).toNat = 2 := by simp [ofK, sortK]
    unfold kidsM giveM
    rw [h1, RR.bind_ok, if_neg h2, h3]
    exact RR.bind_congr _ fun t k' _ => give_kids c (x + 1) nm (acc ++ [t]) k'

set_option maxHeartbeats 4000000 in
theorem list_body (E : REnv) (F : List (List UInt8) → Nat → Nat → RR TT) (nm : List (List UInt8)) (kd k : Nat) (h1 : 1 ≤ kd) (h2 : kd ≠ 2) (h3 : kd ≤ 23) : listM E F nm kd (shapeK kd) k = bodyM E F nm kd k := by
  have h : kd = 1 ∨ kd = 3 ∨ kd = 4 ∨ kd = 5 ∨ kd = 6 ∨ kd = 7 ∨ kd = 8 ∨ kd = 9 ∨ kd = 10 ∨ kd = 11 ∨ kd = 12 ∨ kd = 13 ∨ kd = 14 ∨ kd = 15 ∨ kd = 16 ∨ kd = 17 ∨ kd = 18 ∨ kd = 19 ∨ kd = 20 ∨ kd = 21 ∨ kd = 22 ∨ kd = 23 := by omega
  clear h1 h2 h3
  rcases h with rfl | rfl | rfl | rfl | rfl | rfl | rfl | rfl | rfl | rfl | rfl | rfl | rfl | rfl | rfl | rfl | rfl | rfl | rfl | rfl | rfl | rfl
  case inr.inr.inr.inr.inr.inr.inr.inr.inr.inr.inr.inr.inr.inr.inr.inr.inr.inr.inr.inr.inr =>
    simp [listM, bodyM, shapeK, itemsM, itemM, headM, bindsK, RR.bind_assoc, RR.bind_ok, give_kids]
  all_goals
    simp [listM, bodyM, shapeK, itemsM, itemM, headM, levelsK, bindsK, kidsK, kidsM, bindM, ofK, ofL, sortK, RR.bind_assoc, RR.bind_ok]
end Go.Proofs.YtfklmcmoackepaaDoor
