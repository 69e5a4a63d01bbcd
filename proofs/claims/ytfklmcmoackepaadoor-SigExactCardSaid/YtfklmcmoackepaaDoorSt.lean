/- A round of the reader's list: a term beneath the names that are bound. The reader's list: its rounds joined; its loop; its walk. -/
import Derived.Test.YtfklmcmoackepaaDoorSj5
import Derived.Test.YtfklmcmoackepaaDoorSk3
import Derived.Test.YtfklmcmoackepaaDoorSj2
import Derived.Test.YtfklmcmoackepaaDoorSj3
namespace Go.Proofs.YtfklmcmoackepaaDoor
open Go.RowKit

set_option maxHeartbeats 4000000 in
set_option maxRecDepth 1000000 in
theorem case_b {E : REnv} {lv : Value} {en : Int} {b : Nat} {w : World} {kd ofl k0 : Nat} {shape : List UInt8} {nv : Value} {nm : List (List UInt8)} {F : List (List UInt8) → Nat → Nat → RR TT} {total : RR LS} {c3 c4 c5 c12 c13 c14 c15 c16 c17 c18 c19 c119 c120 c121 : Value} {u20 u21 u22 u23 u24 u25 u26 u27 u28 u29 u30 u31 u32 u33 u34 u35 u36 u37 u38 u39 u40 u41 u42 u43 u44 u45 u46 u47 u48 u49 u50 u51 u52 u53 u54 u55 u56 u57 u58 u59 u60 u61 u62 u63 u64 u65 u66 u67 u68 u69 u70 u71 u72 u73 u74 u75 u76 u77 u78 u79 u80 u81 u82 u83 u84 u85 u86 u87 u88 u89 u90 u91 u92 u93 u94 u95 u96 u97 u98 u99 u100 u101 u102 u103 u104 u105 u106 u107 u108 u109 u110 u111 u112 u113 u114 u115 u116 u117 u118 bv v : Value} {p k : Nat} {s : LS} {rows : List (TT × Value)} {wr : World} (K0 : Act → World → Prop) (R : Ending → World → Prop) {fuel : Nat} (hF : F = termM E fuel) (ih : TermC E lv en b fuel) (hf : E.l.length < k0 + fuel) (hnl : nm.length + E.l.length ≤ 2199023255552 + k0) (hofl : ofl = ofL kd) {kq : Nat} (hR0 : Rr E lv en b w nv nm (.ok kq))
    (hc : shape[p]? = some 98) (hG : GSt E lv en b w kd s.i s.j s.n nv nm (.ok k) bv s.bnd rows v wr) (hb1 : rows.length ≤ 13 * p) (hb2 : s.bnd.length ≤ p) (hb3 : s.i ≤ 1100000000000 ∧ s.j ≤ 1100000000000 ∧ s.n ≤ 21) (hL : LsRel E F nm kd k0 total (shape.drop p) s rows (.ok k)) (hsh : shape.length ≤ 8) :
    Code.wp Tryd.prog lbody (Exit.then (fun a' w'' => WI E lv en b w kd ofl k0 shape nv nm F total c3 c4 c5 c12 c13 c14 c15 c16 c17 c18 c19 c119 c120 c121 a' w'' ∧ Wmu shape a' w'' < Wmu shape ⟨#[.pointer (some ⟨b, 0, none⟩), .int .i64 (kd : Nat), .string ⟨shape.toArray⟩, c3, c4, c5, .pointer (some ⟨w.heap.size, 0, none⟩), .pointer (some ⟨w.heap.size + 1, 0, none⟩), .int .i64 (ofl : Nat), nv, bv, .int .i64 (p : Nat), c12, c13, c14, c15, c16, c17, c18, c19, u20, u21, u22, u23, u24, u25, u26, u27, u28, u29, u30, u31, u32, u33, u34, u35, u36, u37, u38, u39, u40, u41, u42, u43, u44, u45, u46, u47, u48, u49, u50, u51, u52, u53, u54, u55, u56, u57, u58, u59, u60, u61, u62, u63, u64, u65, u66, u67, u68, u69, u70, u71, u72, u73, u74, u75, u76, u77, u78, u79, u80, u81, u82, u83, u84, u85, u86, u87, u88, u89, u90, u91, u92, u93, u94, u95, u96, u97, u98, u99, u100, u101, u102, u103, u104, u105, u106, u107, u108, u109, u110, u111, u112, u113, u114, u115, u116, u117, u118, c119, c120, c121], []⟩ wr) (Exit.inBlock 0 (Exit.then K0 (bodyPost Tryd.prog Tryd.f49 R)))) ⟨#[.pointer (some ⟨b, 0, none⟩), .int .i64 (kd : Nat), .string ⟨shape.toArray⟩, c3, c4, c5, .pointer (some ⟨w.heap.size, 0, none⟩), .pointer (some ⟨w.heap.size + 1, 0, none⟩), .int .i64 (ofl : Nat), nv, bv, .int .i64 (p : Nat), c12, c13, c14, c15, c16, c17, c18, c19, u20, u21, u22, u23, u24, u25, u26, u27, u28, u29, u30, u31, u32, u33, u34, u35, u36, u37, u38, u39, u40, u41, u42, u43, u44, u45, u46, u47, u48, u49, u50, u51, u52, u53, u54, u55, u56, u57, u58, u59, u60, u61, u62, u63, u64, u65, u66, u67, u68, u69, u70, u71, u72, u73, u74, u75, u76, u77, u78, u79, u80, u81, u82, u83, u84, u85, u86, u87, u88, u89, u90, u91, u92, u93, u94, u95, u96, u97, u98, u99, u100, u101, u102, u103, u104, u105, u106, u107, u108, u109, u110, u111, u112, u113, u114, u115, u116, u117, u118, c119, c120, c121], []⟩ wr := by
  have hp : p < shape.length := (List.getElem?_eq_some_iff.1 hc).1
  have hpi : (p : Int) < (shape.length : Int) := by omega
  have HC := Lib.hid hc
  have HL := Lib.hid (ls_step hc hL)
  have HG := Lib.hid hG
  have HB := Lib.hid (And.intro hb1 (And.intro hb2 hb3))
  have hsz : (ByteArray.mk shape.toArray).size = shape.length := by simp [ByteArray.size]
  have hps : p < (ByteArray.mk shape.toArray).size := by rw [hsz]; exact hp
  have hby : (ByteArray.mk shape.toArray)[p]'hps = 98 := by
    have h1 : shape[p] = 98 := (List.getElem?_eq_some_iff.1 hc).2
    rw [← h1]; simp [ByteArray.getElem_eq_getElem_data]
  have l76 : ((((ByteArray.mk shape.toArray)[p]'hps).toNat : Int) == 76) = false := by rw [hby]; decide
  have l77 : ((((ByteArray.mk shape.toArray)[p]'hps).toNat : Int) == 77) = false := by rw [hby]; decide
  have l83 : ((((ByteArray.mk shape.toArray)[p]'hps).toNat : Int) == 83) = false := by rw [hby]; decide
  have l120 : ((((ByteArray.mk shape.toArray)[p]'hps).toNat : Int) == 120) = false := by rw [hby]; decide
  have l121 : ((((ByteArray.mk shape.toArray)[p]'hps).toNat : Int) == 121) = false := by rw [hby]; decide
  have l101 : ((((ByteArray.mk shape.toArray)[p]'hps).toNat : Int) == 101) = false := by rw [hby]; decide
  have l116 : ((((ByteArray.mk shape.toArray)[p]'hps).toNat : Int) == 116) = false := by rw [hby]; decide
  have l112 : ((((ByteArray.mk shape.toArray)[p]'hps).toNat : Int) == 112) = false := by rw [hby]; decide
  clear hby
  obtain ⟨c0, c1, c2, c3', c4', c5', c6, c7⟩ := hG.tn.1.at
  obtain ⟨e0, e1, e2, e3, e4, q0, q1, q2, q3, q4⟩ := cells5 hG.box
  clear hG hL hb1 hb2 hb3 hc
  conv => arg 2; whnf
  have hr12 : rows.length ≤ 140 := by have := HB.out.1; omega
  have hbl : s.bnd.length ≤ 8 := by have := HB.out.2.1; omega
  have hw2 : ofl ≤ 2 := by rw [hofl]; unfold ofL; split <;> omega
  obtain ⟨anv, cnv, rfl⟩ : ∃ a c, nv = .slice a nm.length c := by
    rcases HG.out.tn.1.hasN.2 with ⟨rfl, h0⟩ | ⟨bt, o, c, rfl, _⟩
    · exact ⟨none, 0, by rw [h0]⟩
    · exact ⟨_, _, rfl⟩
  have hnle : nm.length ≤ 4398046511104 := by have := HL.out.2.1; have := HG.out.tn.1.le; have := HG.out.tn.1.len; omega
  have HCALL : Hid (∀ nv' W, GSt E lv en b w kd s.i s.j s.n nv' (nm ++ s.bnd) (.ok k) bv s.bnd rows v W → Calls Tryd.prog 31 #[.pointer (some ⟨b, 0, none⟩), .int .i64 (ofl : Nat)] W (TermPost E lv en b W nv' (nm ++ s.bnd) (termM E fuel (nm ++ s.bnd) ofl k))) := Lib.hid (fun nv' W hW => ih nv' (nm ++ s.bnd) k ofl W hW.tn.1 (by have := HL.out.2.1; omega) (by have := HL.out.2.2.1; simp only [List.length_append]; omega) hw2)
  have HMV := Lib.hid (termM_moves E fuel (nm ++ s.bnd) ofl k HG.out.tn.1.le)
  have HEQ : Hid (itemM E F nm kd 98 s k = (F (nm ++ s.bnd) ofl k).bind fun t k' => .ok { s with kids := s.kids ++ [t] } k') := Lib.hid (by
    unfold itemM
    rw [if_neg (by decide), if_neg (by decide), if_neg (by decide), if_neg (by decide), if_neg (by decide), if_neg (by decide), hofl])
  have HOF := Lib.hid hofl
  have HR0 := Lib.hid hR0
  have hold := HG.out.old
  have hbx := (Array.getElem?_eq_some_iff.1 HG.out.box).1
  obtain ⟨i1, hi, hi0, hi1, hi2⟩ := info_parts Tryd.infoStr
  have HI := Lib.hid (And.intro hi (And.intro hi0 (And.intro hi1 hi2)))
  have HNM := Lib.hid HG.out.tn.1.hasN
  clear ih hf hnl hofl hR0 e0 e1 e2 e3 e4 q0 q1 q2 q3 q4
  go_wp2_with (at_builtin; go_must (refine wpList_append_has rfl (.const (.slice none 0 0)) (.tmp 37) 42 rfl wr.heap.size 9 i1 _ 1 16 Tryd.underlying42 hi hi0 hi1 hi2 rfl (by decide) (.slice none 0 0) 0 [] rfl ?own (.slice anv nm.length cnv) nm.length (textRow nm) rfl ?has ?one ?c3 ?c4 ?c5 ?_))
  case own => exact World.ownsRow_nil _ _ _ _
  case has => exact HNM.out
  case one => intro u hu; simp only [textRow, List.mem_map] at hu; obtain ⟨x, _, rfl⟩ := hu; rfl
  case c3 => unfold maxLen; omega
  case c4 => omega
  case c5 => exact Nat.le_refl _
  intro va w2 hown2 hgrow2
  have HO2 : Hid (w2.ownsRow wr.heap.size 9 1 va nm.length (textRow nm)) := Lib.hid (by simpa using hown2)
  have HB2 : Hid (Below wr.heap.size wr w2) := Lib.hid ((Below.refl _ wr).grown hgrow2 (Nat.le_refl _) (fun g hg => by cases hg))
  have HBO : Hid (Has w2 1 bv s.bnd.length (textRow s.bnd)) := Lib.hid (Has.of_owns (row_below HG.out.ownb HB2.out))
  clear hown2 hgrow2
  obtain ⟨hi, hi0, hi1, hi2⟩ := HI.out
  go_wp2_with (at_builtin; go_must (refine wpList_append_has rfl (.tmp 38) (.tmp 39) 42 rfl wr.heap.size 9 i1 _ 1 16 Tryd.underlying42 hi hi0 hi1 hi2 rfl (by decide) va nm.length (textRow nm) rfl ?own bv s.bnd.length (textRow s.bnd) rfl ?has ?one ?c3 ?c4 ?c5 ?_))
  case own => exact HO2.out
  case has => exact HBO.out
  case one => intro u hu; simp only [textRow, List.mem_map] at hu; obtain ⟨x, _, rfl⟩ := hu; rfl
  case c3 => unfold maxLen; omega
  case c4 => omega
  case c5 => exact HB2.out.size
  intro vn w3 hown3 hgrow3
  have HB3 : Hid (Below wr.heap.size wr w3) := Lib.hid (HB2.out.grown hgrow3 HB2.out.size (fun g hg => (HO2.out.lt g hg).1))
  have HN3 : Hid (Has w3 1 vn (nm ++ s.bnd).length (textRow (nm ++ s.bnd))) := Lib.hid (by
    rw [textRow_append, List.length_append]
    exact Has.of_owns hown3)
  have HF3 : Hid (∀ x, vn.ownBlock = some x → wr.heap.size ≤ x) := Lib.hid (fun x hx => (hown3.lt x hx).1)
  obtain ⟨an3, cn3, rfl⟩ := own_form hown3
  clear hown3 hgrow3 hi hi0 hi1 hi2 c0 c1 c2 c3' c4' c5' c6 c7
  have HG3 := Lib.hid (HG.out.below HB3.out)
  have HG4 := Lib.hid (HG3.out.rename HN3.out (fun x hx => by
    have h1 := HF3.out x hx
    have hsz0 := HG.out.tn.2.size
    exact ⟨by omega, by omega, fun he => by have h2 := (HG.out.own.lt x he.symm).2; omega⟩))
  obtain ⟨c0, c1, c2, c3', c4', c5', c6, c7⟩ := HG3.out.tn.1.at
  have f3 := HG3.out.tn.1.fz 3
  have hbw3 := HG3.out.tn.1.lt
  go_wp2_with fail
  refine reg10_wp (want := ofl) (r := termM E fuel (nm ++ s.bnd) ofl k) _ _ rfl rfl rfl rfl HG4.out hr12 (HCALL.out _) ?_
  intro t v1 v' W8 hg8 hv8 arr hasz hag
  have HG8 := Lib.hid hg8
  have HG9 := Lib.hid (HG8.out.rename (HR0.out.hasN.grown HG8.out.tn.2 HR0.out.farN) (fun x hx => by
    have h1 := HR0.out.hasN.own_lt x hx
    exact ⟨fun e => HR0.out.farN (by rw [hx, e]), by omega, fun he => by have h2 := (HG8.out.own.lt x he.symm).1; omega⟩))
  have HV8 := Lib.hid hv8
  have harr := arr_upd arr 10 43 _ (by rw [hasz]; rfl) hag
  clear hag hg8 hv8 c0 c1 c2 c3' c4' c5' c6 c7 f3 hbw3
  simp only [updN, List.setIfInBounds_toArray, List.set_cons_zero, List.set_cons_succ] at harr
  clear hasz
  generalize arr.getD 43 undef = x43 at harr
  generalize arr.getD 44 undef = x44 at harr
  generalize arr.getD 45 undef = x45 at harr
  generalize arr.getD 46 undef = x46 at harr
  generalize arr.getD 47 undef = x47 at harr
  generalize arr.getD 48 undef = x48 at harr
  generalize arr.getD 49 undef = x49 at harr
  generalize arr.getD 50 undef = x50 at harr
  generalize arr.getD 51 undef = x51 at harr
  generalize arr.getD 52 undef = x52 at harr
  subst harr
  have HREL : Hid (LsRel E F nm kd k0 total (shape.drop (p + 1)) { s with kids := s.kids ++ [t] } (rows ++ [(t, v1)]) (termM E fuel (nm ++ s.bnd) ofl k).md) := Lib.hid (by
    have h1 := rel_kid (nm' := nm ++ s.bnd) (want := ofl) (t := t) (v1 := v1) HEQ.out HL.out (by rw [hF]; exact HMV.out) (by rw [hF]; exact HV8.out)
    have e : F (nm ++ s.bnd) ofl k = termM E fuel (nm ++ s.bnd) ofl k := by rw [hF]
    rw [e] at h1
    exact h1)
  obtain ⟨kk, x', g0, g1, g2, c0, c1, c2, c3', c6, c7⟩ := HG8.out.tn.1.at'
  have f3 := HG8.out.tn.1.fz 3
  have hbw8 := HG8.out.tn.1.lt
  clear g2
  go_wp2
  refine ⟨?_, by simp [Wmu, intOf]; omega⟩
  unfold WI
  refine ⟨bv, p + 1, _, _, _, _, _, _, _, _, _, _, _, _, _, _, _, _, _, _, _, _, _, _, _, _, _, _, _, _, _, _, _, _, _, _, _, _, _, _, _, _, _, _, _, _, _, _, _, _, _, _, _, _, _, _, _, _, _, _, _, _, _, _, _, _, _, _, _, _, _, _, _, _, _, _, _, _, _, _, _, _, _, _, _, _, _, _, _, _, _, _, _, _, _, _, _, _, _, _, _, ?_, rfl⟩
  exact ⟨_, { s with kids := s.kids ++ [t] }, _, _, HG9.out, by have := HB.out.1; simp; omega, by have := HB.out.2.1; simp only; omega, by omega, HB.out.2.2, HREL.out⟩

set_option maxHeartbeats 4000000 in
set_option maxRecDepth 1000000 in
theorem case_P {E : REnv} {lv : Value} {en : Int} {b : Nat} {w : World} {kd ofl k0 : Nat} {shape : List UInt8} {nv : Value} {nm : List (List UInt8)} {F : List (List UInt8) → Nat → Nat → RR TT} {total : RR LS} {c3 c4 c5 c12 c13 c14 c15 c16 c17 c18 c19 c119 c120 c121 : Value} {u20 u21 u22 u23 u24 u25 u26 u27 u28 u29 u30 u31 u32 u33 u34 u35 u36 u37 u38 u39 u40 u41 u42 u43 u44 u45 u46 u47 u48 u49 u50 u51 u52 u53 u54 u55 u56 u57 u58 u59 u60 u61 u62 u63 u64 u65 u66 u67 u68 u69 u70 u71 u72 u73 u74 u75 u76 u77 u78 u79 u80 u81 u82 u83 u84 u85 u86 u87 u88 u89 u90 u91 u92 u93 u94 u95 u96 u97 u98 u99 u100 u101 u102 u103 u104 u105 u106 u107 u108 u109 u110 u111 u112 u113 u114 u115 u116 u117 u118 bv v : Value} {p k : Nat} {s : LS} {rows : List (TT × Value)} {wr : World} (K0 : Act → World → Prop) (R : Ending → World → Prop) {fuel : Nat} (hF : F = termM E fuel) (ih : TermC E lv en b fuel) (hf : E.l.length < k0 + fuel) (hnl : nm.length + E.l.length ≤ 2199023255552 + k0) (hofl : ofl = ofL kd) {kq : Nat} (hR0 : Rr E lv en b w nv nm (.ok kq))
    (hc : shape[p]? = some 80) (hG : GSt E lv en b w kd s.i s.j s.n nv nm (.ok k) bv s.bnd rows v wr) (hb1 : rows.length ≤ 13 * p) (hb2 : s.bnd.length ≤ p) (hb3 : s.i ≤ 1100000000000 ∧ s.j ≤ 1100000000000 ∧ s.n ≤ 21) (hL : LsRel E F nm kd k0 total (shape.drop p) s rows (.ok k)) (hsh : shape.length ≤ 8) :
    Code.wp Tryd.prog lbody (Exit.then (fun a' w'' => WI E lv en b w kd ofl k0 shape nv nm F total c3 c4 c5 c12 c13 c14 c15 c16 c17 c18 c19 c119 c120 c121 a' w'' ∧ Wmu shape a' w'' < Wmu shape ⟨#[.pointer (some ⟨b, 0, none⟩), .int .i64 (kd : Nat), .string ⟨shape.toArray⟩, c3, c4, c5, .pointer (some ⟨w.heap.size, 0, none⟩), .pointer (some ⟨w.heap.size + 1, 0, none⟩), .int .i64 (ofl : Nat), nv, bv, .int .i64 (p : Nat), c12, c13, c14, c15, c16, c17, c18, c19, u20, u21, u22, u23, u24, u25, u26, u27, u28, u29, u30, u31, u32, u33, u34, u35, u36, u37, u38, u39, u40, u41, u42, u43, u44, u45, u46, u47, u48, u49, u50, u51, u52, u53, u54, u55, u56, u57, u58, u59, u60, u61, u62, u63, u64, u65, u66, u67, u68, u69, u70, u71, u72, u73, u74, u75, u76, u77, u78, u79, u80, u81, u82, u83, u84, u85, u86, u87, u88, u89, u90, u91, u92, u93, u94, u95, u96, u97, u98, u99, u100, u101, u102, u103, u104, u105, u106, u107, u108, u109, u110, u111, u112, u113, u114, u115, u116, u117, u118, c119, c120, c121], []⟩ wr) (Exit.inBlock 0 (Exit.then K0 (bodyPost Tryd.prog Tryd.f49 R)))) ⟨#[.pointer (some ⟨b, 0, none⟩), .int .i64 (kd : Nat), .string ⟨shape.toArray⟩, c3, c4, c5, .pointer (some ⟨w.heap.size, 0, none⟩), .pointer (some ⟨w.heap.size + 1, 0, none⟩), .int .i64 (ofl : Nat), nv, bv, .int .i64 (p : Nat), c12, c13, c14, c15, c16, c17, c18, c19, u20, u21, u22, u23, u24, u25, u26, u27, u28, u29, u30, u31, u32, u33, u34, u35, u36, u37, u38, u39, u40, u41, u42, u43, u44, u45, u46, u47, u48, u49, u50, u51, u52, u53, u54, u55, u56, u57, u58, u59, u60, u61, u62, u63, u64, u65, u66, u67, u68, u69, u70, u71, u72, u73, u74, u75, u76, u77, u78, u79, u80, u81, u82, u83, u84, u85, u86, u87, u88, u89, u90, u91, u92, u93, u94, u95, u96, u97, u98, u99, u100, u101, u102, u103, u104, u105, u106, u107, u108, u109, u110, u111, u112, u113, u114, u115, u116, u117, u118, c119, c120, c121], []⟩ wr := by
  have hp : p < shape.length := (List.getElem?_eq_some_iff.1 hc).1
  have hpi : (p : Int) < (shape.length : Int) := by omega
  have HC := Lib.hid hc
  have HL := Lib.hid (ls_step hc hL)
  have HG := Lib.hid hG
  have HB := Lib.hid (And.intro hb1 (And.intro hb2 hb3))
  have hsz : (ByteArray.mk shape.toArray).size = shape.length := by simp [ByteArray.size]
  have hps : p < (ByteArray.mk shape.toArray).size := by rw [hsz]; exact hp
  have hby : (ByteArray.mk shape.toArray)[p]'hps = 80 := by
    have h1 : shape[p] = 80 := (List.getElem?_eq_some_iff.1 hc).2
    rw [← h1]; simp [ByteArray.getElem_eq_getElem_data]
  have l76 : ((((ByteArray.mk shape.toArray)[p]'hps).toNat : Int) == 76) = false := by rw [hby]; decide
  have l77 : ((((ByteArray.mk shape.toArray)[p]'hps).toNat : Int) == 77) = false := by rw [hby]; decide
  have l83 : ((((ByteArray.mk shape.toArray)[p]'hps).toNat : Int) == 83) = false := by rw [hby]; decide
  have l120 : ((((ByteArray.mk shape.toArray)[p]'hps).toNat : Int) == 120) = false := by rw [hby]; decide
  have l121 : ((((ByteArray.mk shape.toArray)[p]'hps).toNat : Int) == 121) = false := by rw [hby]; decide
  have l101 : ((((ByteArray.mk shape.toArray)[p]'hps).toNat : Int) == 101) = false := by rw [hby]; decide
  have l116 : ((((ByteArray.mk shape.toArray)[p]'hps).toNat : Int) == 116) = false := by rw [hby]; decide
  have l112 : ((((ByteArray.mk shape.toArray)[p]'hps).toNat : Int) == 112) = false := by rw [hby]; decide
  clear hby
  obtain ⟨c0, c1, c2, c3', c4', c5', c6, c7⟩ := hG.tn.1.at
  obtain ⟨e0, e1, e2, e3, e4, q0, q1, q2, q3, q4⟩ := cells5 hG.box
  clear hG hL hb1 hb2 hb3 hc
  conv => arg 2; whnf
  have hr12 : rows.length ≤ 140 := by have := HB.out.1; omega
  have hbl : s.bnd.length ≤ 8 := by have := HB.out.2.1; omega
  have hw2 : ofl ≤ 2 := by rw [hofl]; unfold ofL; split <;> omega
  obtain ⟨anv, cnv, rfl⟩ : ∃ a c, nv = .slice a nm.length c := by
    rcases HG.out.tn.1.hasN.2 with ⟨rfl, h0⟩ | ⟨bt, o, c, rfl, _⟩
    · exact ⟨none, 0, by rw [h0]⟩
    · exact ⟨_, _, rfl⟩
  have hnle : nm.length ≤ 4398046511104 := by have := HL.out.2.1; have := HG.out.tn.1.le; have := HG.out.tn.1.len; omega
  have HCALL : Hid (∀ nv' W, GSt E lv en b w kd s.i s.j s.n nv' (nm ++ s.bnd) (.ok k) bv s.bnd rows v W → Calls Tryd.prog 31 #[.pointer (some ⟨b, 0, none⟩), .int .i64 (ofl : Nat)] W (TermPost E lv en b W nv' (nm ++ s.bnd) (termM E fuel (nm ++ s.bnd) ofl k))) := Lib.hid (fun nv' W hW => ih nv' (nm ++ s.bnd) k ofl W hW.tn.1 (by have := HL.out.2.1; omega) (by have := HL.out.2.2.1; simp only [List.length_append]; omega) hw2)
  have HMV := Lib.hid (termM_moves E fuel (nm ++ s.bnd) ofl k HG.out.tn.1.le)
  have HEQ : Hid (itemM E F nm kd 80 s k = (F (nm ++ s.bnd) ofl k).bind fun t k' => .ok { s with kids := s.kids ++ [t] } k') := Lib.hid (by
    unfold itemM
    rw [if_neg (by decide), if_neg (by decide), if_neg (by decide), if_neg (by decide), if_neg (by decide), if_neg (by decide), hofl])
  have HOF := Lib.hid hofl
  have HR0 := Lib.hid hR0
  have hold := HG.out.old
  have hbx := (Array.getElem?_eq_some_iff.1 HG.out.box).1
  obtain ⟨i1, hi, hi0, hi1, hi2⟩ := info_parts Tryd.infoStr
  have HI := Lib.hid (And.intro hi (And.intro hi0 (And.intro hi1 hi2)))
  have HNM := Lib.hid HG.out.tn.1.hasN
  clear ih hf hnl hofl hR0 e0 e1 e2 e3 e4 q0 q1 q2 q3 q4
  go_wp2_with (at_builtin; go_must (refine wpList_append_has rfl (.const (.slice none 0 0)) (.tmp 37) 42 rfl wr.heap.size 9 i1 _ 1 16 Tryd.underlying42 hi hi0 hi1 hi2 rfl (by decide) (.slice none 0 0) 0 [] rfl ?own (.slice anv nm.length cnv) nm.length (textRow nm) rfl ?has ?one ?c3 ?c4 ?c5 ?_))
  case own => exact World.ownsRow_nil _ _ _ _
  case has => exact HNM.out
  case one => intro u hu; simp only [textRow, List.mem_map] at hu; obtain ⟨x, _, rfl⟩ := hu; rfl
  case c3 => unfold maxLen; omega
  case c4 => omega
  case c5 => exact Nat.le_refl _
  intro va w2 hown2 hgrow2
  have HO2 : Hid (w2.ownsRow wr.heap.size 9 1 va nm.length (textRow nm)) := Lib.hid (by simpa using hown2)
  have HB2 : Hid (Below wr.heap.size wr w2) := Lib.hid ((Below.refl _ wr).grown hgrow2 (Nat.le_refl _) (fun g hg => by cases hg))
  have HBO : Hid (Has w2 1 bv s.bnd.length (textRow s.bnd)) := Lib.hid (Has.of_owns (row_below HG.out.ownb HB2.out))
  clear hown2 hgrow2
  obtain ⟨hi, hi0, hi1, hi2⟩ := HI.out
  go_wp2_with (at_builtin; go_must (refine wpList_append_has rfl (.tmp 38) (.tmp 39) 42 rfl wr.heap.size 9 i1 _ 1 16 Tryd.underlying42 hi hi0 hi1 hi2 rfl (by decide) va nm.length (textRow nm) rfl ?own bv s.bnd.length (textRow s.bnd) rfl ?has ?one ?c3 ?c4 ?c5 ?_))
  case own => exact HO2.out
  case has => exact HBO.out
  case one => intro u hu; simp only [textRow, List.mem_map] at hu; obtain ⟨x, _, rfl⟩ := hu; rfl
  case c3 => unfold maxLen; omega
  case c4 => omega
  case c5 => exact HB2.out.size
  intro vn w3 hown3 hgrow3
  have HB3 : Hid (Below wr.heap.size wr w3) := Lib.hid (HB2.out.grown hgrow3 HB2.out.size (fun g hg => (HO2.out.lt g hg).1))
  have HN3 : Hid (Has w3 1 vn (nm ++ s.bnd).length (textRow (nm ++ s.bnd))) := Lib.hid (by
    rw [textRow_append, List.length_append]
    exact Has.of_owns hown3)
  have HF3 : Hid (∀ x, vn.ownBlock = some x → wr.heap.size ≤ x) := Lib.hid (fun x hx => (hown3.lt x hx).1)
  obtain ⟨an3, cn3, rfl⟩ := own_form hown3
  clear hown3 hgrow3 hi hi0 hi1 hi2 c0 c1 c2 c3' c4' c5' c6 c7
  have HG3 := Lib.hid (HG.out.below HB3.out)
  have HG4 := Lib.hid (HG3.out.rename HN3.out (fun x hx => by
    have h1 := HF3.out x hx
    have hsz0 := HG.out.tn.2.size
    exact ⟨by omega, by omega, fun he => by have h2 := (HG.out.own.lt x he.symm).2; omega⟩))
  obtain ⟨c0, c1, c2, c3', c4', c5', c6, c7⟩ := HG3.out.tn.1.at
  have f3 := HG3.out.tn.1.fz 3
  have hbw3 := HG3.out.tn.1.lt
  go_wp2_with fail
  refine reg10_wp (want := ofl) (r := termM E fuel (nm ++ s.bnd) ofl k) _ _ rfl rfl rfl rfl HG4.out hr12 (HCALL.out _) ?_
  intro t v1 v' W8 hg8 hv8 arr hasz hag
  have HG8 := Lib.hid hg8
  have HG9 := Lib.hid (HG8.out.rename (HR0.out.hasN.grown HG8.out.tn.2 HR0.out.farN) (fun x hx => by
    have h1 := HR0.out.hasN.own_lt x hx
    exact ⟨fun e => HR0.out.farN (by rw [hx, e]), by omega, fun he => by have h2 := (HG8.out.own.lt x he.symm).1; omega⟩))
  have HV8 := Lib.hid hv8
  have harr := arr_upd arr 10 43 _ (by rw [hasz]; rfl) hag
  clear hag hg8 hv8 c0 c1 c2 c3' c4' c5' c6 c7 f3 hbw3
  simp only [updN, List.setIfInBounds_toArray, List.set_cons_zero, List.set_cons_succ] at harr
  clear hasz
  generalize arr.getD 43 undef = x43 at harr
  generalize arr.getD 44 undef = x44 at harr
  generalize arr.getD 45 undef = x45 at harr
  generalize arr.getD 46 undef = x46 at harr
  generalize arr.getD 47 undef = x47 at harr
  generalize arr.getD 48 undef = x48 at harr
  generalize arr.getD 49 undef = x49 at harr
  generalize arr.getD 50 undef = x50 at harr
  generalize arr.getD 51 undef = x51 at harr
  generalize arr.getD 52 undef = x52 at harr
  subst harr
  have HREL : Hid (LsRel E F nm kd k0 total (shape.drop (p + 1)) { s with kids := s.kids ++ [t] } (rows ++ [(t, v1)]) (termM E fuel (nm ++ s.bnd) ofl k).md) := Lib.hid (by
    have h1 := rel_kid (nm' := nm ++ s.bnd) (want := ofl) (t := t) (v1 := v1) HEQ.out HL.out (by rw [hF]; exact HMV.out) (by rw [hF]; exact HV8.out)
    have e : F (nm ++ s.bnd) ofl k = termM E fuel (nm ++ s.bnd) ofl k := by rw [hF]
    rw [e] at h1
    exact h1)
  obtain ⟨kk, x', g0, g1, g2, c0, c1, c2, c3', c6, c7⟩ := HG8.out.tn.1.at'
  have f3 := HG8.out.tn.1.fz 3
  have hbw8 := HG8.out.tn.1.lt
  clear g2
  go_wp2
  refine ⟨?_, by simp [Wmu, intOf]; omega⟩
  unfold WI
  refine ⟨bv, p + 1, _, _, _, _, _, _, _, _, _, _, _, _, _, _, _, _, _, _, _, _, _, _, _, _, _, _, _, _, _, _, _, _, _, _, _, _, _, _, _, _, _, _, _, _, _, _, _, _, _, _, _, _, _, _, _, _, _, _, _, _, _, _, _, _, _, _, _, _, _, _, _, _, _, _, _, _, _, _, _, _, _, _, _, _, _, _, _, _, _, _, _, _, _, _, _, _, _, _, _, ?_, rfl⟩
  exact ⟨_, { s with kids := s.kids ++ [t] }, _, _, HG9.out, by have := HB.out.1; simp; omega, by have := HB.out.2.1; simp only; omega, by omega, HB.out.2.2, HREL.out⟩

end Go.Proofs.YtfklmcmoackepaaDoor

namespace Go.Proofs.YtfklmcmoackepaaDoor
open Go.RowKit

set_option maxHeartbeats 8000000 in
set_option maxRecDepth 1000000 in
theorem exit_end {E : REnv} {lv : Value} {en : Int} {b : Nat} {w : World} {kd ofl k0 : Nat} {shape : List UInt8} {nv : Value} {nm : List (List UInt8)} {F : List (List UInt8) → Nat → Nat → RR TT} {total : RR LS} {c3 c4 c5 c12 c13 c14 c15 c16 c17 c18 c19 c119 c120 c121 : Value} {u20 u21 u22 u23 u24 u25 u26 u27 u28 u29 u30 u31 u32 u33 u34 u35 u36 u37 u38 u39 u40 u41 u42 u43 u44 u45 u46 u47 u48 u49 u50 u51 u52 u53 u54 u55 u56 u57 u58 u59 u60 u61 u62 u63 u64 u65 u66 u67 u68 u69 u70 u71 u72 u73 u74 u75 u76 u77 u78 u79 u80 u81 u82 u83 u84 u85 u86 u87 u88 u89 u90 u91 u92 u93 u94 u95 u96 u97 u98 u99 u100 u101 u102 u103 u104 u105 u106 u107 u108 u109 u110 u111 u112 u113 u114 u115 u116 u117 u118 bv v : Value} {p : Nat} {s : LS} {rows : List (TT × Value)} {wr : World} (K0 : Act → World → Prop) (R : Ending → World → Prop)
    (hexit : ∀ a' w'', WX E lv en b w kd ofl k0 shape nv nm F total c3 c4 c5 c12 c13 c14 c15 c16 c17 c18 c19 c119 c120 c121 a' w'' → K0 a' w'') {k : Nat} (hG : GSt E lv en b w kd s.i s.j s.n nv nm (.ok k) bv s.bnd rows v wr) (hp : p = shape.length) (hL : LsRel E F nm kd k0 total (shape.drop p) s rows (.ok k)) (hb3 : s.i ≤ 1100000000000 ∧ s.j ≤ 1100000000000 ∧ s.n ≤ 21) :
    Code.wp Tryd.prog lbody (Exit.then (fun a' w'' => WI E lv en b w kd ofl k0 shape nv nm F total c3 c4 c5 c12 c13 c14 c15 c16 c17 c18 c19 c119 c120 c121 a' w'' ∧ Wmu shape a' w'' < Wmu shape ⟨#[.pointer (some ⟨b, 0, none⟩), .int .i64 (kd : Nat), .string ⟨shape.toArray⟩, c3, c4, c5, .pointer (some ⟨w.heap.size, 0, none⟩), .pointer (some ⟨w.heap.size + 1, 0, none⟩), .int .i64 (ofl : Nat), nv, bv, .int .i64 (p : Nat), c12, c13, c14, c15, c16, c17, c18, c19, u20, u21, u22, u23, u24, u25, u26, u27, u28, u29, u30, u31, u32, u33, u34, u35, u36, u37, u38, u39, u40, u41, u42, u43, u44, u45, u46, u47, u48, u49, u50, u51, u52, u53, u54, u55, u56, u57, u58, u59, u60, u61, u62, u63, u64, u65, u66, u67, u68, u69, u70, u71, u72, u73, u74, u75, u76, u77, u78, u79, u80, u81, u82, u83, u84, u85, u86, u87, u88, u89, u90, u91, u92, u93, u94, u95, u96, u97, u98, u99, u100, u101, u102, u103, u104, u105, u106, u107, u108, u109, u110, u111, u112, u113, u114, u115, u116, u117, u118, c119, c120, c121], []⟩ wr) (Exit.inBlock 0 (Exit.then K0 (bodyPost Tryd.prog Tryd.f49 R)))) ⟨#[.pointer (some ⟨b, 0, none⟩), .int .i64 (kd : Nat), .string ⟨shape.toArray⟩, c3, c4, c5, .pointer (some ⟨w.heap.size, 0, none⟩), .pointer (some ⟨w.heap.size + 1, 0, none⟩), .int .i64 (ofl : Nat), nv, bv, .int .i64 (p : Nat), c12, c13, c14, c15, c16, c17, c18, c19, u20, u21, u22, u23, u24, u25, u26, u27, u28, u29, u30, u31, u32, u33, u34, u35, u36, u37, u38, u39, u40, u41, u42, u43, u44, u45, u46, u47, u48, u49, u50, u51, u52, u53, u54, u55, u56, u57, u58, u59, u60, u61, u62, u63, u64, u65, u66, u67, u68, u69, u70, u71, u72, u73, u74, u75, u76, u77, u78, u79, u80, u81, u82, u83, u84, u85, u86, u87, u88, u89, u90, u91, u92, u93, u94, u95, u96, u97, u98, u99, u100, u101, u102, u103, u104, u105, u106, u107, u108, u109, u110, u111, u112, u113, u114, u115, u116, u117, u118, c119, c120, c121], []⟩ wr := by
  have hsz : (ByteArray.mk shape.toArray).size = shape.length := by simp [ByteArray.size]
  have hpi : ¬ ((p : Int) < (shape.length : Int)) := by omega
  have HT : Hid (total = .ok s k ∧ rows.map Prod.fst = s.kids) := Lib.hid (by
    obtain ⟨h1, h2⟩ := hL
    rw [hp, List.drop_length] at h1
    exact ⟨h1.symm, h2.2.2⟩)
  have HB := Lib.hid hb3
  have HG := Lib.hid hG
  clear hL hG hb3 hp
  conv => arg 2; whnf
  go_wp2
  unfold WX
  refine ⟨bv, p, _, _, _, _, _, _, _, _, _, _, _, _, _, _, _, _, _, _, _, _, _, _, _, _, _, _, _, _, _, _, _, _, _, _, _, _, _, _, _, _, _, _, _, _, _, _, _, _, _, _, _, _, _, _, _, _, _, _, _, _, _, _, _, _, _, _, _, _, _, _, _, _, _, _, _, _, _, _, _, _, _, _, _, _, _, _, _, _, _, _, _, _, _, _, _, _, _, _, _, ?_, rfl⟩
  exact ⟨_, s, rows, v, HG.out, HB.out, by rw [HT.out.1]; rfl, fun s' k' h => by rw [HT.out.1] at h; cases h; exact ⟨rfl, HT.out.2⟩⟩

set_option maxHeartbeats 8000000 in
set_option maxRecDepth 1000000 in
theorem exit_bad {E : REnv} {lv : Value} {en : Int} {b : Nat} {w : World} {kd ofl k0 : Nat} {shape : List UInt8} {nv : Value} {nm : List (List UInt8)} {F : List (List UInt8) → Nat → Nat → RR TT} {total : RR LS} {c3 c4 c5 c12 c13 c14 c15 c16 c17 c18 c19 c119 c120 c121 : Value} {u20 u21 u22 u23 u24 u25 u26 u27 u28 u29 u30 u31 u32 u33 u34 u35 u36 u37 u38 u39 u40 u41 u42 u43 u44 u45 u46 u47 u48 u49 u50 u51 u52 u53 u54 u55 u56 u57 u58 u59 u60 u61 u62 u63 u64 u65 u66 u67 u68 u69 u70 u71 u72 u73 u74 u75 u76 u77 u78 u79 u80 u81 u82 u83 u84 u85 u86 u87 u88 u89 u90 u91 u92 u93 u94 u95 u96 u97 u98 u99 u100 u101 u102 u103 u104 u105 u106 u107 u108 u109 u110 u111 u112 u113 u114 u115 u116 u117 u118 bv v : Value} {p : Nat} {s : LS} {rows : List (TT × Value)} {wr : World} (K0 : Act → World → Prop) (R : Ending → World → Prop)
    (hexit : ∀ a' w'', WX E lv en b w kd ofl k0 shape nv nm F total c3 c4 c5 c12 c13 c14 c15 c16 c17 c18 c19 c119 c120 c121 a' w'' → K0 a' w'') {q : Nat} (hG : GSt E lv en b w kd s.i s.j s.n nv nm (.bad q) bv s.bnd rows v wr) (hp : p ≤ shape.length) (hL : LsRel E F nm kd k0 total (shape.drop p) s rows (.bad q)) (hb3 : s.i ≤ 1100000000000 ∧ s.j ≤ 1100000000000 ∧ s.n ≤ 21) :
    Code.wp Tryd.prog lbody (Exit.then (fun a' w'' => WI E lv en b w kd ofl k0 shape nv nm F total c3 c4 c5 c12 c13 c14 c15 c16 c17 c18 c19 c119 c120 c121 a' w'' ∧ Wmu shape a' w'' < Wmu shape ⟨#[.pointer (some ⟨b, 0, none⟩), .int .i64 (kd : Nat), .string ⟨shape.toArray⟩, c3, c4, c5, .pointer (some ⟨w.heap.size, 0, none⟩), .pointer (some ⟨w.heap.size + 1, 0, none⟩), .int .i64 (ofl : Nat), nv, bv, .int .i64 (p : Nat), c12, c13, c14, c15, c16, c17, c18, c19, u20, u21, u22, u23, u24, u25, u26, u27, u28, u29, u30, u31, u32, u33, u34, u35, u36, u37, u38, u39, u40, u41, u42, u43, u44, u45, u46, u47, u48, u49, u50, u51, u52, u53, u54, u55, u56, u57, u58, u59, u60, u61, u62, u63, u64, u65, u66, u67, u68, u69, u70, u71, u72, u73, u74, u75, u76, u77, u78, u79, u80, u81, u82, u83, u84, u85, u86, u87, u88, u89, u90, u91, u92, u93, u94, u95, u96, u97, u98, u99, u100, u101, u102, u103, u104, u105, u106, u107, u108, u109, u110, u111, u112, u113, u114, u115, u116, u117, u118, c119, c120, c121], []⟩ wr) (Exit.inBlock 0 (Exit.then K0 (bodyPost Tryd.prog Tryd.f49 R)))) ⟨#[.pointer (some ⟨b, 0, none⟩), .int .i64 (kd : Nat), .string ⟨shape.toArray⟩, c3, c4, c5, .pointer (some ⟨w.heap.size, 0, none⟩), .pointer (some ⟨w.heap.size + 1, 0, none⟩), .int .i64 (ofl : Nat), nv, bv, .int .i64 (p : Nat), c12, c13, c14, c15, c16, c17, c18, c19, u20, u21, u22, u23, u24, u25, u26, u27, u28, u29, u30, u31, u32, u33, u34, u35, u36, u37, u38, u39, u40, u41, u42, u43, u44, u45, u46, u47, u48, u49, u50, u51, u52, u53, u54, u55, u56, u57, u58, u59, u60, u61, u62, u63, u64, u65, u66, u67, u68, u69, u70, u71, u72, u73, u74, u75, u76, u77, u78, u79, u80, u81, u82, u83, u84, u85, u86, u87, u88, u89, u90, u91, u92, u93, u94, u95, u96, u97, u98, u99, u100, u101, u102, u103, u104, u105, u106, u107, u108, u109, u110, u111, u112, u113, u114, u115, u116, u117, u118, c119, c120, c121], []⟩ wr := by
  have hsz : (ByteArray.mk shape.toArray).size = shape.length := by simp [ByteArray.size]
  have HT : Hid (total = .bad q) := Lib.hid hL
  have HB := Lib.hid hb3
  have HG := Lib.hid hG
  obtain ⟨kk, x', h0, h1, h2, c0, c1, c2, c3', c6, c7⟩ := hG.tn.1.at'
  simp only [Md.isBad] at c6
  clear hL hG hb3 h0 h1 h2
  by_cases hlt : p < shape.length
  · have hpi : ((p : Int) < (shape.length : Int)) := by omega
    clear hp
    conv => arg 2; whnf
    go_wp2
    unfold WX
    refine ⟨bv, p, _, _, _, _, _, _, _, _, _, _, _, _, _, _, _, _, _, _, _, _, _, _, _, _, _, _, _, _, _, _, _, _, _, _, _, _, _, _, _, _, _, _, _, _, _, _, _, _, _, _, _, _, _, _, _, _, _, _, _, _, _, _, _, _, _, _, _, _, _, _, _, _, _, _, _, _, _, _, _, _, _, _, _, _, _, _, _, _, _, _, _, _, _, _, _, _, _, _, _, ?_, rfl⟩
    exact ⟨_, s, rows, v, HG.out, HB.out, by rw [HT.out]; rfl, fun s' k' h => by rw [HT.out] at h; cases h⟩
  · have hpi : ¬ ((p : Int) < (shape.length : Int)) := by omega
    clear hp
    conv => arg 2; whnf
    go_wp2
    unfold WX
    refine ⟨bv, p, _, _, _, _, _, _, _, _, _, _, _, _, _, _, _, _, _, _, _, _, _, _, _, _, _, _, _, _, _, _, _, _, _, _, _, _, _, _, _, _, _, _, _, _, _, _, _, _, _, _, _, _, _, _, _, _, _, _, _, _, _, _, _, _, _, _, _, _, _, _, _, _, _, _, _, _, _, _, _, _, _, _, _, _, _, _, _, _, _, _, _, _, _, _, _, _, _, _, _, ?_, rfl⟩
    exact ⟨_, s, rows, v, HG.out, HB.out, by rw [HT.out]; rfl, fun s' k' h => by rw [HT.out] at h; cases h⟩

set_option maxHeartbeats 8000000 in
set_option maxRecDepth 1000000 in
theorem round {E : REnv} {lv : Value} {en : Int} {b : Nat} {w : World} {kd ofl k0 : Nat} {shape : List UInt8} {nv : Value} {nm : List (List UInt8)} {F : List (List UInt8) → Nat → Nat → RR TT} {total : RR LS} {c3 c4 c5 c12 c13 c14 c15 c16 c17 c18 c19 c119 c120 c121 : Value} {fuel : Nat} (hF : F = termM E fuel) (ih : TermC E lv en b fuel) (hf : E.l.length < k0 + fuel) (hnl : nm.length + E.l.length ≤ 2199023255552 + k0) (hofl : ofl = ofL kd) {kq : Nat} (hR0 : Rr E lv en b w nv nm (.ok kq)) (hsh : shape.length ≤ 8) (hlet : ∀ c ∈ shape, c = 76 ∨ c = 77 ∨ c = 83 ∨ c = 120 ∨ c = 121 ∨ c = 101 ∨ c = 116 ∨ c = 112 ∨ c = 98 ∨ c = 80) (K0 : Act → World → Prop) (R : Ending → World → Prop)
    (hexit : ∀ a' w'', WX E lv en b w kd ofl k0 shape nv nm F total c3 c4 c5 c12 c13 c14 c15 c16 c17 c18 c19 c119 c120 c121 a' w'' → K0 a' w'') (a : Act) (wr : World) (hI : WI E lv en b w kd ofl k0 shape nv nm F total c3 c4 c5 c12 c13 c14 c15 c16 c17 c18 c19 c119 c120 c121 a wr) :
    Code.wp Tryd.prog lbody (Exit.then (fun a' w'' => WI E lv en b w kd ofl k0 shape nv nm F total c3 c4 c5 c12 c13 c14 c15 c16 c17 c18 c19 c119 c120 c121 a' w'' ∧ Wmu shape a' w'' < Wmu shape a wr) (Exit.inBlock 0 (Exit.then K0 (bodyPost Tryd.prog Tryd.f49 R)))) a wr := by
  unfold WI at hI
  obtain ⟨bv, hI⟩ := hI
  obtain ⟨p, hI⟩ := hI
  obtain ⟨u20, hI⟩ := hI
  obtain ⟨u21, hI⟩ := hI
  obtain ⟨u22, hI⟩ := hI
  obtain ⟨u23, hI⟩ := hI
  obtain ⟨u24, hI⟩ := hI
  obtain ⟨u25, hI⟩ := hI
  obtain ⟨u26, hI⟩ := hI
  obtain ⟨u27, hI⟩ := hI
  obtain ⟨u28, hI⟩ := hI
  obtain ⟨u29, hI⟩ := hI
  obtain ⟨u30, hI⟩ := hI
  obtain ⟨u31, hI⟩ := hI
  obtain ⟨u32, hI⟩ := hI
  obtain ⟨u33, hI⟩ := hI
  obtain ⟨u34, hI⟩ := hI
  obtain ⟨u35, hI⟩ := hI
  obtain ⟨u36, hI⟩ := hI
  obtain ⟨u37, hI⟩ := hI
  obtain ⟨u38, hI⟩ := hI
  obtain ⟨u39, hI⟩ := hI
  obtain ⟨u40, hI⟩ := hI
  obtain ⟨u41, hI⟩ := hI
  obtain ⟨u42, hI⟩ := hI
  obtain ⟨u43, hI⟩ := hI
  obtain ⟨u44, hI⟩ := hI
  obtain ⟨u45, hI⟩ := hI
  obtain ⟨u46, hI⟩ := hI
  obtain ⟨u47, hI⟩ := hI
  obtain ⟨u48, hI⟩ := hI
  obtain ⟨u49, hI⟩ := hI
  obtain ⟨u50, hI⟩ := hI
  obtain ⟨u51, hI⟩ := hI
  obtain ⟨u52, hI⟩ := hI
  obtain ⟨u53, hI⟩ := hI
  obtain ⟨u54, hI⟩ := hI
  obtain ⟨u55, hI⟩ := hI
  obtain ⟨u56, hI⟩ := hI
  obtain ⟨u57, hI⟩ := hI
  obtain ⟨u58, hI⟩ := hI
  obtain ⟨u59, hI⟩ := hI
  obtain ⟨u60, hI⟩ := hI
  obtain ⟨u61, hI⟩ := hI
  obtain ⟨u62, hI⟩ := hI
  obtain ⟨u63, hI⟩ := hI
  obtain ⟨u64, hI⟩ := hI
  obtain ⟨u65, hI⟩ := hI
  obtain ⟨u66, hI⟩ := hI
  obtain ⟨u67, hI⟩ := hI
  obtain ⟨u68, hI⟩ := hI
  obtain ⟨u69, hI⟩ := hI
  obtain ⟨u70, hI⟩ := hI
  obtain ⟨u71, hI⟩ := hI
  obtain ⟨u72, hI⟩ := hI
  obtain ⟨u73, hI⟩ := hI
  obtain ⟨u74, hI⟩ := hI
  obtain ⟨u75, hI⟩ := hI
  obtain ⟨u76, hI⟩ := hI
  obtain ⟨u77, hI⟩ := hI
  obtain ⟨u78, hI⟩ := hI
  obtain ⟨u79, hI⟩ := hI
  obtain ⟨u80, hI⟩ := hI
  obtain ⟨u81, hI⟩ := hI
  obtain ⟨u82, hI⟩ := hI
  obtain ⟨u83, hI⟩ := hI
  obtain ⟨u84, hI⟩ := hI
  obtain ⟨u85, hI⟩ := hI
  obtain ⟨u86, hI⟩ := hI
  obtain ⟨u87, hI⟩ := hI
  obtain ⟨u88, hI⟩ := hI
  obtain ⟨u89, hI⟩ := hI
  obtain ⟨u90, hI⟩ := hI
  obtain ⟨u91, hI⟩ := hI
  obtain ⟨u92, hI⟩ := hI
  obtain ⟨u93, hI⟩ := hI
  obtain ⟨u94, hI⟩ := hI
  obtain ⟨u95, hI⟩ := hI
  obtain ⟨u96, hI⟩ := hI
  obtain ⟨u97, hI⟩ := hI
  obtain ⟨u98, hI⟩ := hI
  obtain ⟨u99, hI⟩ := hI
  obtain ⟨u100, hI⟩ := hI
  obtain ⟨u101, hI⟩ := hI
  obtain ⟨u102, hI⟩ := hI
  obtain ⟨u103, hI⟩ := hI
  obtain ⟨u104, hI⟩ := hI
  obtain ⟨u105, hI⟩ := hI
  obtain ⟨u106, hI⟩ := hI
  obtain ⟨u107, hI⟩ := hI
  obtain ⟨u108, hI⟩ := hI
  obtain ⟨u109, hI⟩ := hI
  obtain ⟨u110, hI⟩ := hI
  obtain ⟨u111, hI⟩ := hI
  obtain ⟨u112, hI⟩ := hI
  obtain ⟨u113, hI⟩ := hI
  obtain ⟨u114, hI⟩ := hI
  obtain ⟨u115, hI⟩ := hI
  obtain ⟨u116, hI⟩ := hI
  obtain ⟨u117, hI⟩ := hI
  obtain ⟨u118, hI⟩ := hI
  obtain ⟨hrel, rfl⟩ := hI
  obtain ⟨m, s, rows, v, hG, hb1, hb2, hp, hb3, hL⟩ := hrel
  cases m with
  | bad q => exact exit_bad K0 R hexit hG hp hL hb3
  | ok k =>
    by_cases hlt : p < shape.length
    · have hc : shape[p]? = some shape[p] := List.getElem?_eq_getElem hlt
      rcases hlet _ (List.getElem_mem hlt) with h | h | h | h | h | h | h | h | h | h
      all_goals rw [h] at hc
      · exact case_L _ hc hG hb1 hb2 hb3 hL hsh
      · by_cases hkd : kd = 23
        · exact case_use _ hF ih hf hnl hkd hc hG hb1 hb2 hb3 hL hsh
        · exact case_M _ hkd hc hG hb1 hb2 hb3 hL hsh
      · exact case_S _ hc hG hb1 hb2 hb3 hL hsh
      · exact case_x _ (fun x hx => hR0.hasN.own_lt x hx) hc hG hb1 hb2 hb3 hL hsh
      · exact case_y _ (fun x hx => hR0.hasN.own_lt x hx) hc hG hb1 hb2 hb3 hL hsh
      · exact case_e _ (fun x hx => hR0.hasN.own_lt x hx) hc hG hb1 hb2 hb3 hL hsh
      · exact case_t _ _ hF ih hf hnl hofl hc hG hb1 hb2 hb3 hL hsh
      · exact case_p _ _ hF ih hf hnl hofl hc hG hb1 hb2 hb3 hL hsh
      · exact case_b _ _ hF ih hf hnl hofl hR0 hc hG hb1 hb2 hb3 hL hsh
      · exact case_P _ _ hF ih hf hnl hofl hR0 hc hG hb1 hb2 hb3 hL hsh
    · exact exit_end K0 R hexit hG (by omega) hL hb3

set_option maxHeartbeats 8000000 in
set_option maxRecDepth 1000000 in
theorem lloop {E : REnv} {lv : Value} {en : Int} {b : Nat} {w : World} {kd ofl k0 : Nat} {shape : List UInt8} {nv : Value} {nm : List (List UInt8)} {F : List (List UInt8) → Nat → Nat → RR TT} {total : RR LS} {c3 c4 c5 c12 c13 c14 c15 c16 c17 c18 c19 c119 c120 c121 : Value} {fuel : Nat} (hF : F = termM E fuel) (ih : TermC E lv en b fuel) (hf : E.l.length < k0 + fuel) (hnl : nm.length + E.l.length ≤ 2199023255552 + k0) (hofl : ofl = ofL kd) {kq : Nat} (hR0 : Rr E lv en b w nv nm (.ok kq)) (hsh : shape.length ≤ 8) (hlet : ∀ c ∈ shape, c = 76 ∨ c = 77 ∨ c = 83 ∨ c = 120 ∨ c = 121 ∨ c = 101 ∨ c = 116 ∨ c = 112 ∨ c = 98 ∨ c = 80) (K0 : Act → World → Prop) (R : Ending → World → Prop)
    (hexit : ∀ a' w'', WX E lv en b w kd ofl k0 shape nv nm F total c3 c4 c5 c12 c13 c14 c15 c16 c17 c18 c19 c119 c120 c121 a' w'' → K0 a' w'') {u20 u21 u22 u23 u24 u25 u26 u27 u28 u29 u30 u31 u32 u33 u34 u35 u36 u37 u38 u39 u40 u41 u42 u43 u44 u45 u46 u47 u48 u49 u50 u51 u52 u53 u54 u55 u56 u57 u58 u59 u60 u61 u62 u63 u64 u65 u66 u67 u68 u69 u70 u71 u72 u73 u74 u75 u76 u77 u78 u79 u80 u81 u82 u83 u84 u85 u86 u87 u88 u89 u90 u91 u92 u93 u94 u95 u96 u97 u98 u99 u100 u101 u102 u103 u104 u105 u106 u107 u108 u109 u110 u111 u112 u113 u114 u115 u116 u117 u118 bv : Value} {p : Nat} {wr : World} (hrel : LRel E lv en b w kd k0 shape nv nm F total bv p wr) :
    Code.wp Tryd.prog (Code.loop lbody) (Exit.inBlock 0 (Exit.then K0 (bodyPost Tryd.prog Tryd.f49 R))) ⟨#[.pointer (some ⟨b, 0, none⟩), .int .i64 (kd : Nat), .string ⟨shape.toArray⟩, c3, c4, c5, .pointer (some ⟨w.heap.size, 0, none⟩), .pointer (some ⟨w.heap.size + 1, 0, none⟩), .int .i64 (ofl : Nat), nv, bv, .int .i64 (p : Nat), c12, c13, c14, c15, c16, c17, c18, c19, u20, u21, u22, u23, u24, u25, u26, u27, u28, u29, u30, u31, u32, u33, u34, u35, u36, u37, u38, u39, u40, u41, u42, u43, u44, u45, u46, u47, u48, u49, u50, u51, u52, u53, u54, u55, u56, u57, u58, u59, u60, u61, u62, u63, u64, u65, u66, u67, u68, u69, u70, u71, u72, u73, u74, u75, u76, u77, u78, u79, u80, u81, u82, u83, u84, u85, u86, u87, u88, u89, u90, u91, u92, u93, u94, u95, u96, u97, u98, u99, u100, u101, u102, u103, u104, u105, u106, u107, u108, u109, u110, u111, u112, u113, u114, u115, u116, u117, u118, c119, c120, c121], []⟩ wr := by
  refine wp_loop (WI E lv en b w kd ofl k0 shape nv nm F total c3 c4 c5 c12 c13 c14 c15 c16 c17 c18 c19 c119 c120 c121) (Wmu shape) ?_ (fun a w'' hI => round hF ih hf hnl hofl hR0 hsh hlet K0 R hexit a w'' hI)
  unfold WI
  exact ⟨bv, p, u20, u21, u22, u23, u24, u25, u26, u27, u28, u29, u30, u31, u32, u33, u34, u35, u36, u37, u38, u39, u40, u41, u42, u43, u44, u45, u46, u47, u48, u49, u50, u51, u52, u53, u54, u55, u56, u57, u58, u59, u60, u61, u62, u63, u64, u65, u66, u67, u68, u69, u70, u71, u72, u73, u74, u75, u76, u77, u78, u79, u80, u81, u82, u83, u84, u85, u86, u87, u88, u89, u90, u91, u92, u93, u94, u95, u96, u97, u98, u99, u100, u101, u102, u103, u104, u105, u106, u107, u108, u109, u110, u111, u112, u113, u114, u115, u116, u117, u118, hrel, rfl⟩
end Go.Proofs.YtfklmcmoackepaaDoor
