/- A round of the reader's list: a term. A region of the reader's list that reads a term and appends it. A round of the reader's list: a plain term. -/
import Derived.Test.YtfklmcmoackepaaDoorSj2
import Derived.Test.YtfklmcmoackepaaDoorSk3
namespace Go.Proofs.YtfklmcmoackepaaDoor
open Go.RowKit

theorem rel_kid {E : REnv} {F : List (List UInt8) → Nat → Nat → RR TT} {nm nm' : List (List UInt8)} {kd k0 want : Nat} {total : RR LS} {cs : List UInt8} {s : LS} {rows : List (TT × Value)} {k : Nat} {c : UInt8} {t : TT} {v1 : Value} (e : itemM E F nm kd c s k = (F nm' want k).bind fun t k' => .ok { s with kids := s.kids ++ [t] } k')
    (h : (itemM E F nm kd c s k).bind (fun s' k' => itemsM E F nm kd cs s' k') = total ∧ k0 ≤ k ∧ s.bnd.length + k0 ≤ k ∧ rows.map Prod.fst = s.kids) (hmv : Moves E.l 1 k (F nm' want k)) (hv : ∀ t' k', F nm' want k = .ok t' k' → t' = t) :
    LsRel E F nm kd k0 total cs { s with kids := s.kids ++ [t] } (rows ++ [(t, v1)]) (F nm' want k).md := by
  rw [e] at h
  cases hq : F nm' want k with
  | bad q => rw [hq] at h; exact h.1.symm
  | ok t' k' =>
    rw [hq] at h hmv
    have := hv t' k' hq
    subst this
    simp only [Moves] at hmv
    exact ⟨h.1, by omega, by have := h.2.2.1; simp only at *; omega, by simp [h.2.2.2]⟩

set_option maxHeartbeats 4000000 in
set_option maxRecDepth 1000000 in
theorem case_t {E : REnv} {lv : Value} {en : Int} {b : Nat} {w : World} {kd ofl k0 : Nat} {shape : List UInt8} {nv : Value} {nm : List (List UInt8)} {F : List (List UInt8) → Nat → Nat → RR TT} {total : RR LS} {c3 c4 c5 c12 c13 c14 c15 c16 c17 c18 c19 c119 c120 c121 : Value} {u20 u21 u22 u23 u24 u25 u26 u27 u28 u29 u30 u31 u32 u33 u34 u35 u36 u37 u38 u39 u40 u41 u42 u43 u44 u45 u46 u47 u48 u49 u50 u51 u52 u53 u54 u55 u56 u57 u58 u59 u60 u61 u62 u63 u64 u65 u66 u67 u68 u69 u70 u71 u72 u73 u74 u75 u76 u77 u78 u79 u80 u81 u82 u83 u84 u85 u86 u87 u88 u89 u90 u91 u92 u93 u94 u95 u96 u97 u98 u99 u100 u101 u102 u103 u104 u105 u106 u107 u108 u109 u110 u111 u112 u113 u114 u115 u116 u117 u118 bv v : Value} {p k : Nat} {s : LS} {rows : List (TT × Value)} {wr : World} (K0 : Act → World → Prop) (R : Ending → World → Prop) {fuel : Nat} (hF : F = termM E fuel) (ih : TermC E lv en b fuel) (hf : E.l.length < k0 + fuel) (hnl : nm.length + E.l.length ≤ 2199023255552 + k0) (hofl : ofl = ofL kd)
    (hc : shape[p]? = some 116) (hG : GSt E lv en b w kd s.i s.j s.n nv nm (.ok k) bv s.bnd rows v wr) (hb1 : rows.length ≤ 13 * p) (hb2 : s.bnd.length ≤ p) (hb3 : s.i ≤ 1100000000000 ∧ s.j ≤ 1100000000000 ∧ s.n ≤ 21) (hL : LsRel E F nm kd k0 total (shape.drop p) s rows (.ok k)) (hsh : shape.length ≤ 8) :
    Code.wp Tryd.prog lbody (Exit.then (fun a' w'' => WI E lv en b w kd ofl k0 shape nv nm F total c3 c4 c5 c12 c13 c14 c15 c16 c17 c18 c19 c119 c120 c121 a' w'' ∧ Wmu shape a' w'' < Wmu shape ⟨#[.pointer (some ⟨b, 0, none⟩), .int .i64 (kd : Nat), .string ⟨shape.toArray⟩, c3, c4, c5, .pointer (some ⟨w.heap.size, 0, none⟩), .pointer (some ⟨w.heap.size + 1, 0, none⟩), .int .i64 (ofl : Nat), nv, bv, .int .i64 (p : Nat), c12, c13, c14, c15, c16, c17, c18, c19, u20, u21, u22, u23, u24, u25, u26, u27, u28, u29, u30, u31, u32, u33, u34, u35, u36, u37, u38, u39, u40, u41, u42, u43, u44, u45, u46, u47, u48, u49, u50, u51, u52, u53, u54, u55, u56, u57, u58, u59, u60, u61, u62, u63, u64, u65, u66, u67, u68, u69, u70, u71, u72, u73, u74, u75, u76, u77, u78, u79, u80, u81, u82, u83, u84, u85, u86, u87, u88, u89, u90, u91, u92, u93, u94, u95, u96, u97, u98, u99, u100, u101, u102, u103, u104, u105, u106, u107, u108, u109, u110, u111, u112, u113, u114, u115, u116, u117, u118, c119, c120, c121], []⟩ wr) (Exit.inBlock 0 (Exit.then K0 (bodyPost Tryd.prog Tryd.f49 R)))) ⟨#[.pointer (some ⟨b, 0, none⟩), .int .i64 (kd : Nat), .string ⟨shape.toArray⟩, c3, c4, c5, .pointer (some ⟨w.heap.size, 0, none⟩), .pointer (some ⟨w.heap.size + 1, 0, none⟩), .int .i64 (ofl : Nat), nv, bv, .int .i64 (p : Nat), c12, c13, c14, c15, c16, c17, c18, c19, u20, u21, u22, u23, u24, u25, u26, u27, u28, u29, u30, u31, u32, u33, u34, u35, u36, u37, u38, u39, u40, u41, u42, u43, u44, u45, u46, u47, u48, u49, u50, u51, u52, u53, u54, u55, u56, u57, u58, u59, u60, u61, u62, u63, u64, u65, u66, u67, u68, u69, u70, u71, u72, u73, u74, u75, u76, u77, u78, u79, u80, u81, u82, u83, u84, u85, u86, u87, u88, u89, u90, u91, u92, u93, u94, u95, u96, u97, u98, u99, u100, u101, u102, u103, u104, u105, u106, u107, u108, u109, u110, u111, u112, u113, u114, u115, u116, u117, u118, c119, c120, c121], []⟩ wr := by
  have hp : p < shape.length := (List.getElem?_eq_some_iff.1 hc).1
  have hpi : (p : Int) < (shape.length : Int) := by omega
  have HC := Lib.hid hc
  have HL := Lib.hid (ls_step hc hL)
  have HG := Lib.hid hG
  have HB := Lib.hid (And.intro hb1 (And.intro hb2 hb3))
  have hsz : (ByteArray.mk shape.toArray).size = shape.length := by simp [ByteArray.size]
  have hps : p < (ByteArray.mk shape.toArray).size := by rw [hsz]; exact hp
  have hby : (ByteArray.mk shape.toArray)[p]'hps = 116 := by
    have h1 : shape[p] = 116 := (List.getElem?_eq_some_iff.1 hc).2
    rw [← h1]; simp [ByteArray.getElem_eq_getElem_data]
  have l76 : ((((ByteArray.mk shape.toArray)[p]'hps).toNat : Int) == 76) = false := by rw [hby]; decide
  have l77 : ((((ByteArray.mk shape.toArray)[p]'hps).toNat : Int) == 77) = false := by rw [hby]; decide
  have l83 : ((((ByteArray.mk shape.toArray)[p]'hps).toNat : Int) == 83) = false := by rw [hby]; decide
  have l120 : ((((ByteArray.mk shape.toArray)[p]'hps).toNat : Int) == 120) = false := by rw [hby]; decide
  have l121 : ((((ByteArray.mk shape.toArray)[p]'hps).toNat : Int) == 121) = false := by rw [hby]; decide
  have l101 : ((((ByteArray.mk shape.toArray)[p]'hps).toNat : Int) == 101) = false := by rw [hby]; decide
  have l116 : ((((ByteArray.mk shape.toArray)[p]'hps).toNat : Int) == 116) = true := by rw [hby]; decide
  have l112 : ((((ByteArray.mk shape.toArray)[p]'hps).toNat : Int) == 112) = false := by rw [hby]; decide
  clear hby
  obtain ⟨c0, c1, c2, c3', c4', c5', c6, c7⟩ := hG.tn.1.at
  obtain ⟨e0, e1, e2, e3, e4, q0, q1, q2, q3, q4⟩ := cells5 hG.box
  clear hG hL hb1 hb2 hb3 hc
  conv => arg 2; whnf
  have hr12 : rows.length ≤ 140 := by have := HB.out.1; omega
  have hw2 : ofl ≤ 2 := by rw [hofl]; unfold ofL; split <;> omega
  have HCALL : Hid (∀ W, GSt E lv en b w kd s.i s.j s.n nv nm (.ok k) bv s.bnd rows v W → Calls Tryd.prog 31 #[.pointer (some ⟨b, 0, none⟩), .int .i64 (ofl : Nat)] W (TermPost E lv en b W nv nm (termM E fuel nm ofl k))) := Lib.hid (fun W hW => ih nv nm k ofl W hW.tn.1 (by have := HL.out.2.1; omega) (by have := HL.out.2.1; omega) hw2)
  have HMV := Lib.hid (termM_moves E fuel nm ofl k HG.out.tn.1.le)
  have HEQ : Hid (itemM E F nm kd 116 s k = (F nm ofl k).bind fun t k' => .ok { s with kids := s.kids ++ [t] } k') := Lib.hid (by
    unfold itemM
    rw [if_neg (by decide), if_neg (by decide), if_neg (by decide), if_neg (by decide), if_pos rfl, hofl])
  have HOF := Lib.hid hofl
  clear ih hf hnl hofl
  go_wp2_with fail
  refine reg27_wp (want := ofl) (r := termM E fuel nm ofl k) _ _ rfl rfl rfl rfl HG.out hr12 HCALL.out ?_
  intro t v1 v' W8 hg8 hv8 arr hasz hag
  have HG8 := Lib.hid hg8
  have harr := arr_upd arr 10 98 _ (by rw [hasz]; rfl) hag
  clear hag
  simp only [updN, List.setIfInBounds_toArray, List.set_cons_zero, List.set_cons_succ] at harr
  clear hasz
  generalize arr.getD 98 undef = x98 at harr
  generalize arr.getD 99 undef = x99 at harr
  generalize arr.getD 100 undef = x100 at harr
  generalize arr.getD 101 undef = x101 at harr
  generalize arr.getD 102 undef = x102 at harr
  generalize arr.getD 103 undef = x103 at harr
  generalize arr.getD 104 undef = x104 at harr
  generalize arr.getD 105 undef = x105 at harr
  generalize arr.getD 106 undef = x106 at harr
  generalize arr.getD 107 undef = x107 at harr
  subst harr
  have HREL : Hid (LsRel E F nm kd k0 total (shape.drop (p + 1)) { s with kids := s.kids ++ [t] } (rows ++ [(t, v1)]) (termM E fuel nm ofl k).md) := Lib.hid (by
    have h1 := rel_kid (nm' := nm) (want := ofl) (t := t) (v1 := v1) HEQ.out HL.out (by rw [hF]; exact HMV.out) (by rw [hF]; exact hv8)
    have e : F nm ofl k = termM E fuel nm ofl k := by rw [hF]
    rw [e] at h1
    exact h1)
  clear hg8 hv8 c0 c1 c2 c3' c4' c5' c6 c7 e0 e1 e2 e3 e4 q0 q1 q2 q3 q4
  go_wp2
  refine ⟨?_, by simp [Wmu, intOf]; omega⟩
  unfold WI
  refine ⟨bv, p + 1, _, _, _, _, _, _, _, _, _, _, _, _, _, _, _, _, _, _, _, _, _, _, _, _, _, _, _, _, _, _, _, _, _, _, _, _, _, _, _, _, _, _, _, _, _, _, _, _, _, _, _, _, _, _, _, _, _, _, _, _, _, _, _, _, _, _, _, _, _, _, _, _, _, _, _, _, _, _, _, _, _, _, _, _, _, _, _, _, _, _, _, _, _, _, _, _, _, _, _, ?_, rfl⟩
  exact ⟨_, { s with kids := s.kids ++ [t] }, _, _, HG8.out, by have := HB.out.1; simp; omega, by have := HB.out.2.1; simp only; omega, by omega, HB.out.2.2, HREL.out⟩

end Go.Proofs.YtfklmcmoackepaaDoor

namespace Go.Proofs.YtfklmcmoackepaaDoor
open Go.RowKit

noncomputable def reg29 : Code := (Tryd.f49.body.bind (findRegion 29)).getD .skip

set_option maxHeartbeats 4000000 in
set_option maxRecDepth 1000000 in
theorem reg29_wp {E : REnv} {lv : Value} {en : Int} {b : Nat} {w : World} {kd i0 j0 n0 : Int} {nv : Value} {nm : List (List UInt8)} {k : Nat} {bv : Value} {bnd : List (List UInt8)} {rows : List (TT × Value)} {v : Value} {wn : World} {r : RR TT} {_want : Nat} (Q : Exit → Act → World → Prop) (a : Act)
    (hsz : a.tmps.size = 122) (h0 : a.tmps[0]? = some (.pointer (some ⟨b, 0, none⟩))) (h7 : a.tmps[7]? = some (.pointer (some ⟨w.heap.size + 1, 0, none⟩))) 
    (hG : GSt E lv en b w kd i0 j0 n0 nv nm (.ok k) bv bnd rows v wn) (hr12 : rows.length ≤ 140)
    (hcall : ∀ W, GSt E lv en b w kd i0 j0 n0 nv nm (.ok k) bv bnd rows v W → Calls Tryd.prog 31 #[.pointer (some ⟨b, 0, none⟩), .int .i64 2] W (TermPost E lv en b W nv nm r))
    (hQ : ∀ (t : TT) (v1 v' : Value) (W8 : World), GSt E lv en b w kd i0 j0 n0 nv nm r.md bv bnd (rows ++ [(t, v1)]) v' W8 → (∀ t' k', r = .ok t' k' → t' = t) → ∀ arr : Array Value, arr.size = 122 → (∀ j, (j < 110 ∨ 110 + 9 ≤ j) → arr[j]? = a.tmps[j]?) → Q .normal ⟨arr, a.defers⟩ W8) :
    reg29.wp Tryd.prog Q a wn := by
  obtain ⟨i1, hi, hi0, hi1, hi2⟩ := info_parts Tryd.infoTerm
  obtain ⟨av, cv, rfl⟩ := own_form hG.own
  have hix : ((rows.length : Nat) : Int) < ((rows.length : Nat) : Int) + 1 := by omega
  have hltw := (Array.getElem?_eq_some_iff.1 hG.box).1
  have HCALL := Lib.hid hcall
  have HGr := Lib.hid hG
  have HQ := Lib.hid hQ
  obtain ⟨e0, e1, e2, e3, e4, q0, q1, q2, q3, q4⟩ := cells5 hG.box
  have s0 : a.tmps[0]'(by omega) = .pointer (some ⟨b, 0, none⟩) := (Array.getElem?_eq_some_iff.1 h0).2
  have s7 : a.tmps[7]'(by omega) = .pointer (some ⟨w.heap.size + 1, 0, none⟩) := (Array.getElem?_eq_some_iff.1 h7).2

  clear hcall hG hQ h0 h7
  refine wp_onlyN ?_
  conv => arg 2; whnf
  go_region_law
    (first
      | (go_simp
         go_at_call 31
         first
           | (refine (HCALL.out _ (HGr.out.drewN 1)).mono ?_
              rintro e w6 ⟨t, a6, l6, c6, rfl, ht6, hv6⟩
              have HG6 := Lib.hid (GSt.move (HGr.out.drewN 1) ht6 (fun _ => rfl))
              have hbx6 := HG6.out.box
              obtain ⟨k0c, k1c, k2c, k3c, k4c, _⟩ := cells5 hbx6
              have hown6 := HG6.out.own
              have hsz6 := (Array.getElem?_eq_some_iff.1 hbx6).1
              unfold termV)
           | (refine (HCALL.out _ ((HGr.out.alloc (.cells zero5 24)).drewN 1)).mono ?_
              rintro e w6 ⟨t, a6, l6, c6, rfl, ht6, hv6⟩
              have HG6 := Lib.hid (GSt.move ((HGr.out.alloc (.cells zero5 24)).drewN 1) ht6 (fun _ => rfl))
              have hz6 : w6.heap[wn.heap.size]? = some (.cells zero5 24 (0, 0)) := by
                rw [ht6.2.block wn.heap.size (by simp) (by have := HGr.out.old; have := HGr.out.tn.2.size; simp; omega)]
                exact new_heap _ _ _
              have hbx6 := HG6.out.box
              obtain ⟨k0c, k1c, k2c, k3c, k4c, _⟩ := cells5 hbx6
              have hown6 := HG6.out.own
              have hsz6 := (Array.getElem?_eq_some_iff.1 hbx6).1
              unfold termV))
      | (refine step_append_lies _ (by rfl) _ _ _ (by rfl) (w.heap.size + 2) 24 i1 _ 5 56 Tryd.underlying22 hi hi0 hi1 hi2 rfl (by omega) (.slice av rows.length cv) rows.length (kidCells rows) (by simp [hsz, go_sem]) (hown6.alloc _)
           ⟨w6.heap.size, 0, none⟩ 1 1 zero5.toList (by simp [hsz, go_sem]) (by simp [zero5]) (World.news_of_block (cs := zero5) (t := 24) (fr := (0, 0)) (heap_alloc_new w6 _)) (by simp [zero5, Value.oneCell'])
           (by omega) (by unfold maxLen; omega) (by omega) (by simp; omega) (w6.heap.size + 1) (by simp) ?_
         intro g cap w7 hown7 hgrow7 hat7 hlt7
         obtain ⟨hg7, u0, u1, u2, u3, u4, z0, z1, z2, z3, z4⟩ := new_row5 hown7
         have hbx7 := (box7 (hG := HG6.out.alloc (.cells zero5 24)) hgrow7 hat7 (by simp))
         obtain ⟨k0d, k1d, k2d, k3d, k4d, q0d, q1d, q2d, q3d, q4d⟩ := cells5 hbx7
         have HP : Hid (PushTo E lv en b w kd i0 j0 n0 nv nm r.md bv bnd rows t (.slice a6 l6 c6) g cap w7) := Lib.hid (push_to (HG6.out.alloc (.cells zero5 24)) HGr.out (fun hm => rep_alloc (rep_of hm hv6) _) hown7 hgrow7 hat7 (by simp) hbx7))
      | (refine step_append_lies _ (by rfl) _ _ _ (by rfl) (w.heap.size + 2) 24 i1 _ 5 56 Tryd.underlying22 hi hi0 hi1 hi2 rfl (by omega) (.slice av rows.length cv) rows.length (kidCells rows) (by simp [hsz, go_sem]) hown6
           ⟨wn.heap.size, 0, none⟩ 1 1 zero5.toList (by simp [hsz, go_sem]) (by simp [zero5]) (World.news_of_block (cs := zero5) (t := 24) (fr := (0, 0)) hz6) (by simp [zero5, Value.oneCell'])
           (by omega) (by unfold maxLen; omega) (by omega) (by omega) (w6.heap.size) (by rfl) ?_
         intro g cap w7 hown7 hgrow7 hat7 hlt7
         obtain ⟨hg7, u0, u1, u2, u3, u4, z0, z1, z2, z3, z4⟩ := new_row5 hown7
         have hbx7 := (box7 (hG := HG6.out) hgrow7 hat7 (by rfl))
         obtain ⟨k0d, k1d, k2d, k3d, k4d, q0d, q1d, q2d, q3d, q4d⟩ := cells5 hbx7
         have HP : Hid (PushTo E lv en b w kd i0 j0 n0 nv nm r.md bv bnd rows t (.slice a6 l6 c6) g cap w7) := Lib.hid (push_to HG6.out HGr.out (fun hm => rep_less (rep_of hm hv6) (by simp)) hown7 hgrow7 hat7 (by rfl) hbx7))
      | (trace_state; fail))
  all_goals
    obtain ⟨h1, h2⟩ := HP.out
    unfold set5o at h1 h2
    refine HQ.out t (.slice a6 l6 c6) (.slice (some ⟨g, 0, none⟩) (rows.length + 1) cap) _ ?gs (fun t' k' h => (hv6 t' k' h).1) _ (by simp [hsz]) (fun j hj => ?ag)
    case gs =>
      first
        | with_reducible exact h1
        | with_reducible exact h2
    case ag => repeat rw [Array.getElem?_setIfInBounds_ne (by omega)]

end Go.Proofs.YtfklmcmoackepaaDoor

namespace Go.Proofs.YtfklmcmoackepaaDoor
open Go.RowKit

set_option maxHeartbeats 4000000 in
set_option maxRecDepth 1000000 in
theorem case_p {E : REnv} {lv : Value} {en : Int} {b : Nat} {w : World} {kd ofl k0 : Nat} {shape : List UInt8} {nv : Value} {nm : List (List UInt8)} {F : List (List UInt8) → Nat → Nat → RR TT} {total : RR LS} {c3 c4 c5 c12 c13 c14 c15 c16 c17 c18 c19 c119 c120 c121 : Value} {u20 u21 u22 u23 u24 u25 u26 u27 u28 u29 u30 u31 u32 u33 u34 u35 u36 u37 u38 u39 u40 u41 u42 u43 u44 u45 u46 u47 u48 u49 u50 u51 u52 u53 u54 u55 u56 u57 u58 u59 u60 u61 u62 u63 u64 u65 u66 u67 u68 u69 u70 u71 u72 u73 u74 u75 u76 u77 u78 u79 u80 u81 u82 u83 u84 u85 u86 u87 u88 u89 u90 u91 u92 u93 u94 u95 u96 u97 u98 u99 u100 u101 u102 u103 u104 u105 u106 u107 u108 u109 u110 u111 u112 u113 u114 u115 u116 u117 u118 bv v : Value} {p k : Nat} {s : LS} {rows : List (TT × Value)} {wr : World} (K0 : Act → World → Prop) (R : Ending → World → Prop) {fuel : Nat} (hF : F = termM E fuel) (ih : TermC E lv en b fuel) (hf : E.l.length < k0 + fuel) (hnl : nm.length + E.l.length ≤ 2199023255552 + k0) (hofl : ofl = ofL kd)
    (hc : shape[p]? = some 112) (hG : GSt E lv en b w kd s.i s.j s.n nv nm (.ok k) bv s.bnd rows v wr) (hb1 : rows.length ≤ 13 * p) (hb2 : s.bnd.length ≤ p) (hb3 : s.i ≤ 1100000000000 ∧ s.j ≤ 1100000000000 ∧ s.n ≤ 21) (hL : LsRel E F nm kd k0 total (shape.drop p) s rows (.ok k)) (hsh : shape.length ≤ 8) :
    Code.wp Tryd.prog lbody (Exit.then (fun a' w'' => WI E lv en b w kd ofl k0 shape nv nm F total c3 c4 c5 c12 c13 c14 c15 c16 c17 c18 c19 c119 c120 c121 a' w'' ∧ Wmu shape a' w'' < Wmu shape ⟨#[.pointer (some ⟨b, 0, none⟩), .int .i64 (kd : Nat), .string ⟨shape.toArray⟩, c3, c4, c5, .pointer (some ⟨w.heap.size, 0, none⟩), .pointer (some ⟨w.heap.size + 1, 0, none⟩), .int .i64 (ofl : Nat), nv, bv, .int .i64 (p : Nat), c12, c13, c14, c15, c16, c17, c18, c19, u20, u21, u22, u23, u24, u25, u26, u27, u28, u29, u30, u31, u32, u33, u34, u35, u36, u37, u38, u39, u40, u41, u42, u43, u44, u45, u46, u47, u48, u49, u50, u51, u52, u53, u54, u55, u56, u57, u58, u59, u60, u61, u62, u63, u64, u65, u66, u67, u68, u69, u70, u71, u72, u73, u74, u75, u76, u77, u78, u79, u80, u81, u82, u83, u84, u85, u86, u87, u88, u89, u90, u91, u92, u93, u94, u95, u96, u97, u98, u99, u100, u101, u102, u103, u104, u105, u106, u107, u108, u109, u110, u111, u112, u113, u114, u115, u116, u117, u118, c119, c120, c121], []⟩ wr) (Exit.inBlock 0 (Exit.then K0 (bodyPost Tryd.prog Tryd.f49 R)))) ⟨#[.pointer (some ⟨b, 0, none⟩), .int .i64 (kd : Nat), .string ⟨shape.toArray⟩, c3, c4, c5, .pointer (some ⟨w.heap.size, 0, none⟩), .pointer (some ⟨w.heap.size + 1, 0, none⟩), .int .i64 (ofl : Nat), nv, bv, .int .i64 (p : Nat), c12, c13, c14, c15, c16, c17, c18, c19, u20, u21, u22, u23, u24, u25, u26, u27, u28, u29, u30, u31, u32, u33, u34, u35, u36, u37, u38, u39, u40, u41, u42, u43, u44, u45, u46, u47, u48, u49, u50, u51, u52, u53, u54, u55, u56, u57, u58, u59, u60, u61, u62, u63, u64, u65, u66, u67, u68, u69, u70, u71, u72, u73, u74, u75, u76, u77, u78, u79, u80, u81, u82, u83, u84, u85, u86, u87, u88, u89, u90, u91, u92, u93, u94, u95, u96, u97, u98, u99, u100, u101, u102, u103, u104, u105, u106, u107, u108, u109, u110, u111, u112, u113, u114, u115, u116, u117, u118, c119, c120, c121], []⟩ wr := by
  have hp : p < shape.length := (List.getElem?_eq_some_iff.1 hc).1
  have hpi : (p : Int) < (shape.length : Int) := by omega
  have HC := Lib.hid hc
  have HL := Lib.hid (ls_step hc hL)
  have HG := Lib.hid hG
  have HB := Lib.hid (And.intro hb1 (And.intro hb2 hb3))
  have hsz : (ByteArray.mk shape.toArray).size = shape.length := by simp [ByteArray.size]
  have hps : p < (ByteArray.mk shape.toArray).size := by rw [hsz]; exact hp
  have hby : (ByteArray.mk shape.toArray)[p]'hps = 112 := by
    have h1 : shape[p] = 112 := (List.getElem?_eq_some_iff.1 hc).2
    rw [← h1]; simp [ByteArray.getElem_eq_getElem_data]
  have l76 : ((((ByteArray.mk shape.toArray)[p]'hps).toNat : Int) == 76) = false := by rw [hby]; decide
  have l77 : ((((ByteArray.mk shape.toArray)[p]'hps).toNat : Int) == 77) = false := by rw [hby]; decide
  have l83 : ((((ByteArray.mk shape.toArray)[p]'hps).toNat : Int) == 83) = false := by rw [hby]; decide
  have l120 : ((((ByteArray.mk shape.toArray)[p]'hps).toNat : Int) == 120) = false := by rw [hby]; decide
  have l121 : ((((ByteArray.mk shape.toArray)[p]'hps).toNat : Int) == 121) = false := by rw [hby]; decide
  have l101 : ((((ByteArray.mk shape.toArray)[p]'hps).toNat : Int) == 101) = false := by rw [hby]; decide
  have l116 : ((((ByteArray.mk shape.toArray)[p]'hps).toNat : Int) == 116) = false := by rw [hby]; decide
  have l112 : ((((ByteArray.mk shape.toArray)[p]'hps).toNat : Int) == 112) = true := by rw [hby]; decide
  clear hby
  obtain ⟨c0, c1, c2, c3', c4', c5', c6, c7⟩ := hG.tn.1.at
  obtain ⟨e0, e1, e2, e3, e4, q0, q1, q2, q3, q4⟩ := cells5 hG.box
  clear hG hL hb1 hb2 hb3 hc
  conv => arg 2; whnf
  have hr12 : rows.length ≤ 140 := by have := HB.out.1; omega
  have hw2 : 2 ≤ 2 := by omega
  have HCALL : Hid (∀ W, GSt E lv en b w kd s.i s.j s.n nv nm (.ok k) bv s.bnd rows v W → Calls Tryd.prog 31 #[.pointer (some ⟨b, 0, none⟩), .int .i64 2] W (TermPost E lv en b W nv nm (termM E fuel nm 2 k))) := Lib.hid (fun W hW => ih nv nm k 2 W hW.tn.1 (by have := HL.out.2.1; omega) (by have := HL.out.2.1; omega) hw2)
  have HMV := Lib.hid (termM_moves E fuel nm 2 k HG.out.tn.1.le)
  have HEQ : Hid (itemM E F nm kd 112 s k = (F nm 2 k).bind fun t k' => .ok { s with kids := s.kids ++ [t] } k') := Lib.hid (by
    unfold itemM
    rw [if_neg (by decide), if_neg (by decide), if_neg (by decide), if_neg (by decide), if_neg (by decide), if_pos rfl])
  have HOF := Lib.hid hofl
  clear ih hf hnl hofl
  go_wp2_with fail
  refine reg29_wp (_want := ofl) (r := termM E fuel nm 2 k) _ _ rfl rfl rfl HG.out hr12 HCALL.out ?_
  intro t v1 v' W8 hg8 hv8 arr hasz hag
  have HG8 := Lib.hid hg8
  have harr := arr_upd arr 9 110 _ (by rw [hasz]; rfl) hag
  clear hag
  simp only [updN, List.setIfInBounds_toArray, List.set_cons_zero, List.set_cons_succ] at harr
  clear hasz
  generalize arr.getD 110 undef = x110 at harr
  generalize arr.getD 111 undef = x111 at harr
  generalize arr.getD 112 undef = x112 at harr
  generalize arr.getD 113 undef = x113 at harr
  generalize arr.getD 114 undef = x114 at harr
  generalize arr.getD 115 undef = x115 at harr
  generalize arr.getD 116 undef = x116 at harr
  generalize arr.getD 117 undef = x117 at harr
  generalize arr.getD 118 undef = x118 at harr
  subst harr
  have HREL : Hid (LsRel E F nm kd k0 total (shape.drop (p + 1)) { s with kids := s.kids ++ [t] } (rows ++ [(t, v1)]) (termM E fuel nm 2 k).md) := Lib.hid (by
    have h1 := rel_kid (nm' := nm) (want := 2) (t := t) (v1 := v1) HEQ.out HL.out (by rw [hF]; exact HMV.out) (by rw [hF]; exact hv8)
    have e : F nm 2 k = termM E fuel nm 2 k := by rw [hF]
    rw [e] at h1
    exact h1)
  clear hg8 hv8 c0 c1 c2 c3' c4' c5' c6 c7 e0 e1 e2 e3 e4 q0 q1 q2 q3 q4
  go_wp2
  refine ⟨?_, by simp [Wmu, intOf]; omega⟩
  unfold WI
  refine ⟨bv, p + 1, _, _, _, _, _, _, _, _, _, _, _, _, _, _, _, _, _, _, _, _, _, _, _, _, _, _, _, _, _, _, _, _, _, _, _, _, _, _, _, _, _, _, _, _, _, _, _, _, _, _, _, _, _, _, _, _, _, _, _, _, _, _, _, _, _, _, _, _, _, _, _, _, _, _, _, _, _, _, _, _, _, _, _, _, _, _, _, _, _, _, _, _, _, _, _, _, _, _, _, ?_, rfl⟩
  exact ⟨_, { s with kids := s.kids ++ [t] }, _, _, HG8.out, by have := HB.out.1; simp; omega, by have := HB.out.2.1; simp only; omega, by omega, HB.out.2.2, HREL.out⟩

end Go.Proofs.YtfklmcmoackepaaDoor
