/- A round of the reader's list: a level. A round of the reader's list: a symbol; what it is given. -/
import Derived.Test.YtfklmcmoackepaaDoorSk3
namespace Go.Proofs.YtfklmcmoackepaaDoor
open Go.RowKit

theorem levM_moves' (E : REnv) {k : Nat} (h : k ≤ E.l.length) {a k' : Nat} (he : levM E k = .ok a k') : k < k' ∧ k' ≤ E.l.length := by
  have := levM_moves E h
  rw [he] at this
  simp only [Moves] at this
  omega

theorem rel_L {E : REnv} {F : List (List UInt8) → Nat → Nat → RR TT} {nm : List (List UInt8)} {kd k0 : Nat} {total : RR LS} {cs : List UInt8} {s : LS} {rows : List (TT × Value)} {k n : Nat} (hk : k ≤ E.l.length)
    (h : (itemM E F nm kd 76 s k).bind (fun s' k' => itemsM E F nm kd cs s' k') = total ∧ k0 ≤ k ∧ s.bnd.length + k0 ≤ k ∧ rows.map Prod.fst = s.kids) (hv : ∀ a k', levM E k = .ok a k' → n = a) : LsRel E F nm kd k0 total cs { s with i := n } rows (levM E k).md := by
  have e : itemM E F nm kd 76 s k = (levM E k).bind fun a k' => .ok { s with i := a } k' := by unfold itemM; rw [if_pos rfl]
  rw [e] at h
  cases hq : levM E k with
  | bad q => rw [hq] at h; exact h.1.symm
  | ok a k' =>
    rw [hq] at h
    have := hv a k' hq
    subst this
    have hm := levM_moves' E hk hq
    exact ⟨h.1, by omega, by have := h.2.2.1; simp only at *; omega, h.2.2.2⟩
theorem rel_M {E : REnv} {F : List (List UInt8) → Nat → Nat → RR TT} {nm : List (List UInt8)} {kd k0 : Nat} (hkd : kd ≠ 23) {total : RR LS} {cs : List UInt8} {s : LS} {rows : List (TT × Value)} {k n : Nat} (hk : k ≤ E.l.length)
    (h : (itemM E F nm kd 77 s k).bind (fun s' k' => itemsM E F nm kd cs s' k') = total ∧ k0 ≤ k ∧ s.bnd.length + k0 ≤ k ∧ rows.map Prod.fst = s.kids) (hv : ∀ a k', levM E k = .ok a k' → n = a) : LsRel E F nm kd k0 total cs { s with j := n } rows (levM E k).md := by
  have e : itemM E F nm kd 77 s k = (levM E k).bind fun a k' => .ok { s with j := a } k' := by unfold itemM; rw [if_neg (by decide), if_pos rfl]; simp only [hkd, if_false]
  rw [e] at h
  cases hq : levM E k with
  | bad q => rw [hq] at h; exact h.1.symm
  | ok a k' =>
    rw [hq] at h
    have := hv a k' hq
    subst this
    have hm := levM_moves' E hk hq
    exact ⟨h.1, by omega, by have := h.2.2.1; simp only at *; omega, h.2.2.2⟩
theorem rel_use {E : REnv} {F : List (List UInt8) → Nat → Nat → RR TT} {nm : List (List UInt8)} {k0 : Nat} {total : RR LS} {cs : List UInt8} {s : LS} {rows rows' : List (TT × Value)} {k n : Nat} (hk : k ≤ E.l.length)
    (h : (itemM E F nm 23 77 s k).bind (fun s' k' => itemsM E F nm 23 cs s' k') = total ∧ k0 ≤ k ∧ s.bnd.length + k0 ≤ k ∧ rows.map Prod.fst = s.kids) (hv : ∀ a k', levM E k = .ok a k' → n = a)
    (hF : ∀ c acc k, k ≤ E.l.length → Moves E.l 0 k (giveM F nm c acc k))
    (hr : ∀ ks k', (levM E k).md.go (giveM F nm (kidsK 23 s.n).toNat (rows.map Prod.fst)) = .ok ks k' → rows'.map Prod.fst = ks) : LsRel E F nm 23 k0 total cs { s with j := n, kids := rows'.map Prod.fst } rows' ((levM E k).md.go (giveM F nm (kidsK 23 s.n).toNat (rows.map Prod.fst))).md := by
  have e : itemM E F nm 23 77 s k = (levM E k).bind fun a k' => (giveM F nm (kidsK 23 s.n).toNat s.kids k').bind fun ks k'' => .ok { s with j := a, kids := ks } k'' := by unfold itemM; rw [if_neg (by decide), if_pos rfl]; simp only [if_true]
  rw [e] at h
  cases hq : levM E k with
  | bad q => rw [hq] at h; exact h.1.symm
  | ok a k' =>
    rw [hq] at h hr
    have := hv a k' hq
    subst this
    have hm := levM_moves' E hk hq
    simp only [RR.bind_ok, RR.md, Md.go] at h hr ⊢
    rw [← h.2.2.2] at h
    cases hg : giveM F nm (kidsK 23 s.n).toNat (rows.map Prod.fst) k' with
    | bad q => rw [hg] at h; exact h.1.symm
    | ok ks k2 =>
      rw [hg] at h hr
      have hm2 := hF (kidsK 23 s.n).toNat (rows.map Prod.fst) k' hm.2
      rw [hg] at hm2
      simp only [Moves] at hm2
      have := hr ks k2 rfl
      subst this
      exact ⟨h.1, by omega, by have := h.2.2.1; simp only at *; omega, rfl⟩
theorem giveM_moves {E : REnv} {F : List (List UInt8) → Nat → Nat → RR TT} {nm : List (List UInt8)} (hF : ∀ nm want k, k ≤ E.l.length → Moves E.l 1 k (F nm want k)) : ∀ c acc k, k ≤ E.l.length → Moves E.l 0 k (giveM F nm c acc k)
  | 0, acc, k, h => .ok _ h
  | c + 1, acc, k, h => by
    unfold giveM
    exact (hF nm 2 k h).bind0 fun t k2 _ h2 => giveM_moves hF c _ k2 h2

set_option maxHeartbeats 4000000 in
set_option maxRecDepth 1000000 in
theorem case_L {E : REnv} {lv : Value} {en : Int} {b : Nat} {w : World} {kd ofl k0 : Nat} {shape : List UInt8} {nv : Value} {nm : List (List UInt8)} {F : List (List UInt8) → Nat → Nat → RR TT} {total : RR LS} {c3 c4 c5 c12 c13 c14 c15 c16 c17 c18 c19 c119 c120 c121 : Value} {u20 u21 u22 u23 u24 u25 u26 u27 u28 u29 u30 u31 u32 u33 u34 u35 u36 u37 u38 u39 u40 u41 u42 u43 u44 u45 u46 u47 u48 u49 u50 u51 u52 u53 u54 u55 u56 u57 u58 u59 u60 u61 u62 u63 u64 u65 u66 u67 u68 u69 u70 u71 u72 u73 u74 u75 u76 u77 u78 u79 u80 u81 u82 u83 u84 u85 u86 u87 u88 u89 u90 u91 u92 u93 u94 u95 u96 u97 u98 u99 u100 u101 u102 u103 u104 u105 u106 u107 u108 u109 u110 u111 u112 u113 u114 u115 u116 u117 u118 bv v : Value} {p k : Nat} {s : LS} {rows : List (TT × Value)} {wr : World} (Q0 : Exit → Act → World → Prop) 
    (hc : shape[p]? = some 76) (hG : GSt E lv en b w kd s.i s.j s.n nv nm (.ok k) bv s.bnd rows v wr) (hb1 : rows.length ≤ 13 * p) (hb2 : s.bnd.length ≤ p) (hb3 : s.i ≤ 1100000000000 ∧ s.j ≤ 1100000000000 ∧ s.n ≤ 21) (hL : LsRel E F nm kd k0 total (shape.drop p) s rows (.ok k)) (hsh : shape.length ≤ 8) :
    Code.wp Tryd.prog lbody (Exit.then (fun a' w'' => WI E lv en b w kd ofl k0 shape nv nm F total c3 c4 c5 c12 c13 c14 c15 c16 c17 c18 c19 c119 c120 c121 a' w'' ∧ Wmu shape a' w'' < Wmu shape ⟨#[.pointer (some ⟨b, 0, none⟩), .int .i64 (kd : Nat), .string ⟨shape.toArray⟩, c3, c4, c5, .pointer (some ⟨w.heap.size, 0, none⟩), .pointer (some ⟨w.heap.size + 1, 0, none⟩), .int .i64 (ofl : Nat), nv, bv, .int .i64 (p : Nat), c12, c13, c14, c15, c16, c17, c18, c19, u20, u21, u22, u23, u24, u25, u26, u27, u28, u29, u30, u31, u32, u33, u34, u35, u36, u37, u38, u39, u40, u41, u42, u43, u44, u45, u46, u47, u48, u49, u50, u51, u52, u53, u54, u55, u56, u57, u58, u59, u60, u61, u62, u63, u64, u65, u66, u67, u68, u69, u70, u71, u72, u73, u74, u75, u76, u77, u78, u79, u80, u81, u82, u83, u84, u85, u86, u87, u88, u89, u90, u91, u92, u93, u94, u95, u96, u97, u98, u99, u100, u101, u102, u103, u104, u105, u106, u107, u108, u109, u110, u111, u112, u113, u114, u115, u116, u117, u118, c119, c120, c121], []⟩ wr) Q0) ⟨#[.pointer (some ⟨b, 0, none⟩), .int .i64 (kd : Nat), .string ⟨shape.toArray⟩, c3, c4, c5, .pointer (some ⟨w.heap.size, 0, none⟩), .pointer (some ⟨w.heap.size + 1, 0, none⟩), .int .i64 (ofl : Nat), nv, bv, .int .i64 (p : Nat), c12, c13, c14, c15, c16, c17, c18, c19, u20, u21, u22, u23, u24, u25, u26, u27, u28, u29, u30, u31, u32, u33, u34, u35, u36, u37, u38, u39, u40, u41, u42, u43, u44, u45, u46, u47, u48, u49, u50, u51, u52, u53, u54, u55, u56, u57, u58, u59, u60, u61, u62, u63, u64, u65, u66, u67, u68, u69, u70, u71, u72, u73, u74, u75, u76, u77, u78, u79, u80, u81, u82, u83, u84, u85, u86, u87, u88, u89, u90, u91, u92, u93, u94, u95, u96, u97, u98, u99, u100, u101, u102, u103, u104, u105, u106, u107, u108, u109, u110, u111, u112, u113, u114, u115, u116, u117, u118, c119, c120, c121], []⟩ wr := by
  have hp : p < shape.length := (List.getElem?_eq_some_iff.1 hc).1
  have hpi : (p : Int) < (shape.length : Int) := by omega
  have HC := Lib.hid hc
  have HL := Lib.hid (ls_step hc hL)
  have HG := Lib.hid hG
  have HB := Lib.hid (And.intro hb1 (And.intro hb2 hb3))
  have hsz : (ByteArray.mk shape.toArray).size = shape.length := by simp [ByteArray.size]
  have hps : p < (ByteArray.mk shape.toArray).size := by rw [hsz]; exact hp
  have hby : (ByteArray.mk shape.toArray)[p]'hps = 76 := by
    have h1 : shape[p] = 76 := (List.getElem?_eq_some_iff.1 hc).2
    rw [← h1]; simp [ByteArray.getElem_eq_getElem_data]
  have l76 : ((((ByteArray.mk shape.toArray)[p]'hps).toNat : Int) == 76) = true := by rw [hby]; decide
  have l77 : ((((ByteArray.mk shape.toArray)[p]'hps).toNat : Int) == 77) = false := by rw [hby]; decide
  have l83 : ((((ByteArray.mk shape.toArray)[p]'hps).toNat : Int) == 83) = false := by rw [hby]; decide
  have l120 : ((((ByteArray.mk shape.toArray)[p]'hps).toNat : Int) == 120) = false := by rw [hby]; decide
  have l121 : ((((ByteArray.mk shape.toArray)[p]'hps).toNat : Int) == 121) = false := by rw [hby]; decide
  have l101 : ((((ByteArray.mk shape.toArray)[p]'hps).toNat : Int) == 101) = false := by rw [hby]; decide
  have l116 : ((((ByteArray.mk shape.toArray)[p]'hps).toNat : Int) == 116) = false := by rw [hby]; decide
  have l112 : ((((ByteArray.mk shape.toArray)[p]'hps).toNat : Int) == 112) = false := by rw [hby]; decide
  clear hby
  obtain ⟨c0, c1, c2, c3', c4', c5', c6, c7⟩ := hG.tn.1.at
  obtain ⟨e0, e1, e2, e3, e4, q0, q1, q2, q3, q4⟩ := cells5 hG.box
  clear hG hL hb1 hb2 hb3 hc
  conv => arg 2; whnf
  go_wp2_with fail
  refine (lev_m HG.out.tn.1).mono ?_
  rintro e w4 ⟨n, rfl, ht4, hval, hn4⟩
  have HG4 := Lib.hid (HG.out.move ht4 (md_good _ _))
  have HR4 := Lib.hid (rel_L (n := n) HG.out.tn.1.le HL.out hval)
  have hle := HG.out.tn.1.le
  clear ht4 hval c0 c1 c2 c3' c4' c5' c6 c7 e0 e1 e2 e3 e4 q0 q1 q2 q3 q4
  obtain ⟨e0, e1, e2, e3, e4, q0, q1, q2, q3, q4⟩ := cells5 HG4.out.box
  go_wp2
  refine ⟨?_, by simp [Wmu, intOf]; omega⟩
  unfold WI
  refine ⟨bv, p + 1, _, _, _, _, _, _, _, _, _, _, _, _, _, _, _, _, _, _, _, _, _, _, _, _, _, _, _, _, _, _, _, _, _, _, _, _, _, _, _, _, _, _, _, _, _, _, _, _, _, _, _, _, _, _, _, _, _, _, _, _, _, _, _, _, _, _, _, _, _, _, _, _, _, _, _, _, _, _, _, _, _, _, _, _, _, _, _, _, _, _, _, _, _, _, _, _, _, _, _, ?_, rfl⟩
  exact ⟨_, { s with i := n }, rows, v, HG4.out.setbox 1 (.int .i64 n) rfl, by have := HB.out.1; omega, by have := HB.out.2.1; simp only; omega, by omega, ⟨hn4, HB.out.2.2.2⟩, HR4.out⟩
set_option maxHeartbeats 4000000 in
set_option maxRecDepth 1000000 in
theorem case_M {E : REnv} {lv : Value} {en : Int} {b : Nat} {w : World} {kd ofl k0 : Nat} {shape : List UInt8} {nv : Value} {nm : List (List UInt8)} {F : List (List UInt8) → Nat → Nat → RR TT} {total : RR LS} {c3 c4 c5 c12 c13 c14 c15 c16 c17 c18 c19 c119 c120 c121 : Value} {u20 u21 u22 u23 u24 u25 u26 u27 u28 u29 u30 u31 u32 u33 u34 u35 u36 u37 u38 u39 u40 u41 u42 u43 u44 u45 u46 u47 u48 u49 u50 u51 u52 u53 u54 u55 u56 u57 u58 u59 u60 u61 u62 u63 u64 u65 u66 u67 u68 u69 u70 u71 u72 u73 u74 u75 u76 u77 u78 u79 u80 u81 u82 u83 u84 u85 u86 u87 u88 u89 u90 u91 u92 u93 u94 u95 u96 u97 u98 u99 u100 u101 u102 u103 u104 u105 u106 u107 u108 u109 u110 u111 u112 u113 u114 u115 u116 u117 u118 bv v : Value} {p k : Nat} {s : LS} {rows : List (TT × Value)} {wr : World} (Q0 : Exit → Act → World → Prop) (hkd : kd ≠ 23)
    (hc : shape[p]? = some 77) (hG : GSt E lv en b w kd s.i s.j s.n nv nm (.ok k) bv s.bnd rows v wr) (hb1 : rows.length ≤ 13 * p) (hb2 : s.bnd.length ≤ p) (hb3 : s.i ≤ 1100000000000 ∧ s.j ≤ 1100000000000 ∧ s.n ≤ 21) (hL : LsRel E F nm kd k0 total (shape.drop p) s rows (.ok k)) (hsh : shape.length ≤ 8) :
    Code.wp Tryd.prog lbody (Exit.then (fun a' w'' => WI E lv en b w kd ofl k0 shape nv nm F total c3 c4 c5 c12 c13 c14 c15 c16 c17 c18 c19 c119 c120 c121 a' w'' ∧ Wmu shape a' w'' < Wmu shape ⟨#[.pointer (some ⟨b, 0, none⟩), .int .i64 (kd : Nat), .string ⟨shape.toArray⟩, c3, c4, c5, .pointer (some ⟨w.heap.size, 0, none⟩), .pointer (some ⟨w.heap.size + 1, 0, none⟩), .int .i64 (ofl : Nat), nv, bv, .int .i64 (p : Nat), c12, c13, c14, c15, c16, c17, c18, c19, u20, u21, u22, u23, u24, u25, u26, u27, u28, u29, u30, u31, u32, u33, u34, u35, u36, u37, u38, u39, u40, u41, u42, u43, u44, u45, u46, u47, u48, u49, u50, u51, u52, u53, u54, u55, u56, u57, u58, u59, u60, u61, u62, u63, u64, u65, u66, u67, u68, u69, u70, u71, u72, u73, u74, u75, u76, u77, u78, u79, u80, u81, u82, u83, u84, u85, u86, u87, u88, u89, u90, u91, u92, u93, u94, u95, u96, u97, u98, u99, u100, u101, u102, u103, u104, u105, u106, u107, u108, u109, u110, u111, u112, u113, u114, u115, u116, u117, u118, c119, c120, c121], []⟩ wr) Q0) ⟨#[.pointer (some ⟨b, 0, none⟩), .int .i64 (kd : Nat), .string ⟨shape.toArray⟩, c3, c4, c5, .pointer (some ⟨w.heap.size, 0, none⟩), .pointer (some ⟨w.heap.size + 1, 0, none⟩), .int .i64 (ofl : Nat), nv, bv, .int .i64 (p : Nat), c12, c13, c14, c15, c16, c17, c18, c19, u20, u21, u22, u23, u24, u25, u26, u27, u28, u29, u30, u31, u32, u33, u34, u35, u36, u37, u38, u39, u40, u41, u42, u43, u44, u45, u46, u47, u48, u49, u50, u51, u52, u53, u54, u55, u56, u57, u58, u59, u60, u61, u62, u63, u64, u65, u66, u67, u68, u69, u70, u71, u72, u73, u74, u75, u76, u77, u78, u79, u80, u81, u82, u83, u84, u85, u86, u87, u88, u89, u90, u91, u92, u93, u94, u95, u96, u97, u98, u99, u100, u101, u102, u103, u104, u105, u106, u107, u108, u109, u110, u111, u112, u113, u114, u115, u116, u117, u118, c119, c120, c121], []⟩ wr := by
  have hp : p < shape.length := (List.getElem?_eq_some_iff.1 hc).1
  have hpi : (p : Int) < (shape.length : Int) := by omega
  have HC := Lib.hid hc
  have HL := Lib.hid (ls_step hc hL)
  have HG := Lib.hid hG
  have HB := Lib.hid (And.intro hb1 (And.intro hb2 hb3))
  have hsz : (ByteArray.mk shape.toArray).size = shape.length := by simp [ByteArray.size]
  have hps : p < (ByteArray.mk shape.toArray).size := by rw [hsz]; exact hp
  have hby : (ByteArray.mk shape.toArray)[p]'hps = 77 := by
    have h1 : shape[p] = 77 := (List.getElem?_eq_some_iff.1 hc).2
    rw [← h1]; simp [ByteArray.getElem_eq_getElem_data]
  have l76 : ((((ByteArray.mk shape.toArray)[p]'hps).toNat : Int) == 76) = false := by rw [hby]; decide
  have l77 : ((((ByteArray.mk shape.toArray)[p]'hps).toNat : Int) == 77) = true := by rw [hby]; decide
  have l83 : ((((ByteArray.mk shape.toArray)[p]'hps).toNat : Int) == 83) = false := by rw [hby]; decide
  have l120 : ((((ByteArray.mk shape.toArray)[p]'hps).toNat : Int) == 120) = false := by rw [hby]; decide
  have l121 : ((((ByteArray.mk shape.toArray)[p]'hps).toNat : Int) == 121) = false := by rw [hby]; decide
  have l101 : ((((ByteArray.mk shape.toArray)[p]'hps).toNat : Int) == 101) = false := by rw [hby]; decide
  have l116 : ((((ByteArray.mk shape.toArray)[p]'hps).toNat : Int) == 116) = false := by rw [hby]; decide
  have l112 : ((((ByteArray.mk shape.toArray)[p]'hps).toNat : Int) == 112) = false := by rw [hby]; decide
  clear hby
  obtain ⟨c0, c1, c2, c3', c4', c5', c6, c7⟩ := hG.tn.1.at
  obtain ⟨e0, e1, e2, e3, e4, q0, q1, q2, q3, q4⟩ := cells5 hG.box
  clear hG hL hb1 hb2 hb3 hc
  conv => arg 2; whnf
  have hk23 : ((kd : Int) == 23) = false := by simp; omega
  go_wp2_with fail
  refine (lev_m HG.out.tn.1).mono ?_
  rintro e w4 ⟨n, rfl, ht4, hval, hn4⟩
  have HG4 := Lib.hid (HG.out.move ht4 (md_good _ _))
  have HR4 := Lib.hid (rel_M (n := n) hkd HG.out.tn.1.le HL.out hval)
  have hle := HG.out.tn.1.le
  clear ht4 hval c0 c1 c2 c3' c4' c5' c6 c7 e0 e1 e2 e3 e4 q0 q1 q2 q3 q4
  obtain ⟨e0, e1, e2, e3, e4, q0, q1, q2, q3, q4⟩ := cells5 HG4.out.box
  go_wp2
  refine ⟨?_, by simp [Wmu, intOf]; omega⟩
  unfold WI
  refine ⟨bv, p + 1, _, _, _, _, _, _, _, _, _, _, _, _, _, _, _, _, _, _, _, _, _, _, _, _, _, _, _, _, _, _, _, _, _, _, _, _, _, _, _, _, _, _, _, _, _, _, _, _, _, _, _, _, _, _, _, _, _, _, _, _, _, _, _, _, _, _, _, _, _, _, _, _, _, _, _, _, _, _, _, _, _, _, _, _, _, _, _, _, _, _, _, _, _, _, _, _, _, _, _, ?_, rfl⟩
  exact ⟨_, { s with j := n }, rows, v, HG4.out.setbox 2 (.int .i64 n) rfl, by have := HB.out.1; omega, by have := HB.out.2.1; simp only; omega, by omega, ⟨HB.out.2.2.1, hn4, HB.out.2.2.2.2⟩, HR4.out⟩
end Go.Proofs.YtfklmcmoackepaaDoor

namespace Go.Proofs.YtfklmcmoackepaaDoor
open Go.RowKit

theorem takesK_le (n : Int) : takesK n ≤ 12 := by
  unfold takesK
  split
  · omega
  split
  · omega
  split
  · omega
  split
  · omega
  split <;> omega
theorem kidsK_use (n : Int) : kidsK 23 n = takesK n := by
  simp [kidsK]
theorem symI_nil : symI [] = 0 := by decide

theorem rel_S_ok {E : REnv} {F : List (List UInt8) → Nat → Nat → RR TT} {nm : List (List UInt8)} {kd k0 : Nat} {total : RR LS} {cs : List UInt8} {s : LS} {rows : List (TT × Value)} {k : Nat}
    (h : (itemM E F nm kd 83 s k).bind (fun s' k' => itemsM E F nm kd cs s' k') = total ∧ k0 ≤ k ∧ s.bnd.length + k0 ≤ k ∧ rows.map Prod.fst = s.kids) (hk : kindAt E.l k = 3) (hs : symI (textAt E.l k) ≠ 0) : LsRel E F nm kd k0 total cs { s with n := symI (textAt E.l k) } rows (.ok (k + 1)) := by
  have e : itemM E F nm kd 83 s k = .ok { s with n := symI (textAt E.l k) } (k + 1) := by
    unfold itemM symM wordM
    rw [if_neg (by decide), if_neg (by decide), if_pos rfl, if_pos hk]
    simp only [RR.bind_ok, hs, if_false]
  rw [e] at h
  exact ⟨h.1, by omega, by have := h.2.2.1; simp only at *; omega, h.2.2.2⟩
theorem rel_S_bad {E : REnv} {F : List (List UInt8) → Nat → Nat → RR TT} {nm : List (List UInt8)} {kd k0 n : Nat} {total : RR LS} {cs : List UInt8} {s : LS} {rows : List (TT × Value)} {k : Nat}
    (h : (itemM E F nm kd 83 s k).bind (fun s' k' => itemsM E F nm kd cs s' k') = total ∧ k0 ≤ k ∧ s.bnd.length + k0 ≤ k ∧ rows.map Prod.fst = s.kids) (hk : kindAt E.l k = 3 → symI (textAt E.l k) = 0) : LsRel E F nm kd k0 total cs { s with n := n } rows (.bad k) := by
  have e : itemM E F nm kd 83 s k = .bad k := by
    unfold itemM symM wordM
    rw [if_neg (by decide), if_neg (by decide), if_pos rfl]
    by_cases h3 : kindAt E.l k = 3
    · rw [if_pos h3]; simp only [RR.bind_ok, hk h3, if_true, RR.bind_bad]
    · rw [if_neg h3]; rfl
  rw [e] at h
  exact h.1.symm

set_option maxHeartbeats 4000000 in
set_option maxRecDepth 1000000 in
theorem case_use {E : REnv} {lv : Value} {en : Int} {b : Nat} {w : World} {kd ofl k0 : Nat} {shape : List UInt8} {nv : Value} {nm : List (List UInt8)} {F : List (List UInt8) → Nat → Nat → RR TT} {total : RR LS} {c3 c4 c5 c12 c13 c14 c15 c16 c17 c18 c19 c119 c120 c121 : Value} {u20 u21 u22 u23 u24 u25 u26 u27 u28 u29 u30 u31 u32 u33 u34 u35 u36 u37 u38 u39 u40 u41 u42 u43 u44 u45 u46 u47 u48 u49 u50 u51 u52 u53 u54 u55 u56 u57 u58 u59 u60 u61 u62 u63 u64 u65 u66 u67 u68 u69 u70 u71 u72 u73 u74 u75 u76 u77 u78 u79 u80 u81 u82 u83 u84 u85 u86 u87 u88 u89 u90 u91 u92 u93 u94 u95 u96 u97 u98 u99 u100 u101 u102 u103 u104 u105 u106 u107 u108 u109 u110 u111 u112 u113 u114 u115 u116 u117 u118 bv v : Value} {p k : Nat} {s : LS} {rows : List (TT × Value)} {wr : World} (Q0 : Exit → Act → World → Prop) {fuel : Nat} (hF : F = termM E fuel) (ih : TermC E lv en b fuel) (hf : E.l.length < k0 + fuel) (hnl : nm.length + E.l.length ≤ 2199023255552 + k0) (hkd : kd = 23)
    (hc : shape[p]? = some 77) (hG : GSt E lv en b w kd s.i s.j s.n nv nm (.ok k) bv s.bnd rows v wr) (hb1 : rows.length ≤ 13 * p) (hb2 : s.bnd.length ≤ p) (hb3 : s.i ≤ 1100000000000 ∧ s.j ≤ 1100000000000 ∧ s.n ≤ 21) (hL : LsRel E F nm kd k0 total (shape.drop p) s rows (.ok k)) (hsh : shape.length ≤ 8) :
    Code.wp Tryd.prog lbody (Exit.then (fun a' w'' => WI E lv en b w kd ofl k0 shape nv nm F total c3 c4 c5 c12 c13 c14 c15 c16 c17 c18 c19 c119 c120 c121 a' w'' ∧ Wmu shape a' w'' < Wmu shape ⟨#[.pointer (some ⟨b, 0, none⟩), .int .i64 (kd : Nat), .string ⟨shape.toArray⟩, c3, c4, c5, .pointer (some ⟨w.heap.size, 0, none⟩), .pointer (some ⟨w.heap.size + 1, 0, none⟩), .int .i64 (ofl : Nat), nv, bv, .int .i64 (p : Nat), c12, c13, c14, c15, c16, c17, c18, c19, u20, u21, u22, u23, u24, u25, u26, u27, u28, u29, u30, u31, u32, u33, u34, u35, u36, u37, u38, u39, u40, u41, u42, u43, u44, u45, u46, u47, u48, u49, u50, u51, u52, u53, u54, u55, u56, u57, u58, u59, u60, u61, u62, u63, u64, u65, u66, u67, u68, u69, u70, u71, u72, u73, u74, u75, u76, u77, u78, u79, u80, u81, u82, u83, u84, u85, u86, u87, u88, u89, u90, u91, u92, u93, u94, u95, u96, u97, u98, u99, u100, u101, u102, u103, u104, u105, u106, u107, u108, u109, u110, u111, u112, u113, u114, u115, u116, u117, u118, c119, c120, c121], []⟩ wr) Q0) ⟨#[.pointer (some ⟨b, 0, none⟩), .int .i64 (kd : Nat), .string ⟨shape.toArray⟩, c3, c4, c5, .pointer (some ⟨w.heap.size, 0, none⟩), .pointer (some ⟨w.heap.size + 1, 0, none⟩), .int .i64 (ofl : Nat), nv, bv, .int .i64 (p : Nat), c12, c13, c14, c15, c16, c17, c18, c19, u20, u21, u22, u23, u24, u25, u26, u27, u28, u29, u30, u31, u32, u33, u34, u35, u36, u37, u38, u39, u40, u41, u42, u43, u44, u45, u46, u47, u48, u49, u50, u51, u52, u53, u54, u55, u56, u57, u58, u59, u60, u61, u62, u63, u64, u65, u66, u67, u68, u69, u70, u71, u72, u73, u74, u75, u76, u77, u78, u79, u80, u81, u82, u83, u84, u85, u86, u87, u88, u89, u90, u91, u92, u93, u94, u95, u96, u97, u98, u99, u100, u101, u102, u103, u104, u105, u106, u107, u108, u109, u110, u111, u112, u113, u114, u115, u116, u117, u118, c119, c120, c121], []⟩ wr := by
  have hp : p < shape.length := (List.getElem?_eq_some_iff.1 hc).1
  have hpi : (p : Int) < (shape.length : Int) := by omega
  have HC := Lib.hid hc
  have HL := Lib.hid (ls_step hc hL)
  have HG := Lib.hid hG
  have HB := Lib.hid (And.intro hb1 (And.intro hb2 hb3))
  have hsz : (ByteArray.mk shape.toArray).size = shape.length := by simp [ByteArray.size]
  have hps : p < (ByteArray.mk shape.toArray).size := by rw [hsz]; exact hp
  have hby : (ByteArray.mk shape.toArray)[p]'hps = 77 := by
    have h1 : shape[p] = 77 := (List.getElem?_eq_some_iff.1 hc).2
    rw [← h1]; simp [ByteArray.getElem_eq_getElem_data]
  have l76 : ((((ByteArray.mk shape.toArray)[p]'hps).toNat : Int) == 76) = false := by rw [hby]; decide
  have l77 : ((((ByteArray.mk shape.toArray)[p]'hps).toNat : Int) == 77) = true := by rw [hby]; decide
  have l83 : ((((ByteArray.mk shape.toArray)[p]'hps).toNat : Int) == 83) = false := by rw [hby]; decide
  have l120 : ((((ByteArray.mk shape.toArray)[p]'hps).toNat : Int) == 120) = false := by rw [hby]; decide
  have l121 : ((((ByteArray.mk shape.toArray)[p]'hps).toNat : Int) == 121) = false := by rw [hby]; decide
  have l101 : ((((ByteArray.mk shape.toArray)[p]'hps).toNat : Int) == 101) = false := by rw [hby]; decide
  have l116 : ((((ByteArray.mk shape.toArray)[p]'hps).toNat : Int) == 116) = false := by rw [hby]; decide
  have l112 : ((((ByteArray.mk shape.toArray)[p]'hps).toNat : Int) == 112) = false := by rw [hby]; decide
  clear hby
  obtain ⟨c0, c1, c2, c3', c4', c5', c6, c7⟩ := hG.tn.1.at
  obtain ⟨e0, e1, e2, e3, e4, q0, q1, q2, q3, q4⟩ := cells5 hG.box
  clear hG hL hb1 hb2 hb3 hc
  conv => arg 2; whnf
  have hk23 : ((kd : Int) == 23) = true := by simp; omega
  have HKI : Hid (((kd : Nat) : Int) = 23) := Lib.hid (by omega)
  have HKD := Lib.hid hkd
  clear hkd
  have hwn := HB.out.2.2.2.2
  have IH := Lib.hid ih
  clear ih
  have h12 := takesK_le (s.n : Int)
  rw [← kidsK_use] at h12
  go_wp2_with fail
  refine (lev_m HG.out.tn.1).mono ?_
  rintro e w4 ⟨n, rfl, ht4, hval, hn4⟩
  have HG4 := Lib.hid (HG.out.move ht4 (md_good _ _))
  have HVAL := Lib.hid hval
  have hle := HG.out.tn.1.le
  have hmv := levM_moves E hle
  have hlb := HL.out.2.1
  clear ht4 hval c0 c1 c2 c3' c4' c5' c6 c7 e0 e1 e2 e3 e4 q0 q1 q2 q3 q4
  obtain ⟨e0, e1, e2, e3, e4, q0, q1, q2, q3, q4⟩ := cells5 HG4.out.box
  have hg5 := HG4.out.setbox 2 (.int .i64 n) rfl
  rw [HKI.out] at hg5
  have HG5 := Lib.hid hg5
  clear hg5
  go_wp2_with fail
  refine (given_any IH.out rfl rfl (by omega) (rows0 := rows) (by have := HB.out.1; omega) HG5.out (k := k0) ?_ hf hnl).mono ?_
  · intro k1 he
    simp only [Md.go] at he
    cases hq : levM E k with
    | bad q => rw [hq] at he; simp [RR.md] at he
    | ok a k' =>
      rw [hq] at he hmv
      simp only [RR.md, Md.ok.injEq] at he
      simp only [Moves] at hmv
      omega
  rintro e w6 ⟨rfl, rows', v', hg6, hlen6, hv6⟩
  rw [← hF] at hg6 hv6
  have HR6 := Lib.hid (rel_use (rows' := rows') HG.out.tn.1.le (by have := HL.out; rw [HKD.out] at this; exact this) HVAL.out (giveM_moves (by rw [hF]; exact fun nm want k h => termM_moves E fuel nm want k h)) hv6)
  rw [← HKI.out] at hg6
  have HG6 := Lib.hid hg6
  clear hg6 hv6
  go_wp2
  refine ⟨?_, by simp [Wmu, intOf]; omega⟩
  unfold WI
  refine ⟨bv, p + 1, _, _, _, _, _, _, _, _, _, _, _, _, _, _, _, _, _, _, _, _, _, _, _, _, _, _, _, _, _, _, _, _, _, _, _, _, _, _, _, _, _, _, _, _, _, _, _, _, _, _, _, _, _, _, _, _, _, _, _, _, _, _, _, _, _, _, _, _, _, _, _, _, _, _, _, _, _, _, _, _, _, _, _, _, _, _, _, _, _, _, _, _, _, _, _, _, _, _, _, ?_, rfl⟩
  exact ⟨_, { s with j := n, kids := rows'.map Prod.fst }, rows', v', HG6.out, by have := HB.out.1; omega, by have := HB.out.2.1; simp only; omega, by omega, ⟨HB.out.2.2.1, hn4, HB.out.2.2.2.2⟩, by rw [HKD.out]; exact HR6.out⟩
set_option maxHeartbeats 4000000 in
set_option maxRecDepth 1000000 in
theorem case_S {E : REnv} {lv : Value} {en : Int} {b : Nat} {w : World} {kd ofl k0 : Nat} {shape : List UInt8} {nv : Value} {nm : List (List UInt8)} {F : List (List UInt8) → Nat → Nat → RR TT} {total : RR LS} {c3 c4 c5 c12 c13 c14 c15 c16 c17 c18 c19 c119 c120 c121 : Value} {u20 u21 u22 u23 u24 u25 u26 u27 u28 u29 u30 u31 u32 u33 u34 u35 u36 u37 u38 u39 u40 u41 u42 u43 u44 u45 u46 u47 u48 u49 u50 u51 u52 u53 u54 u55 u56 u57 u58 u59 u60 u61 u62 u63 u64 u65 u66 u67 u68 u69 u70 u71 u72 u73 u74 u75 u76 u77 u78 u79 u80 u81 u82 u83 u84 u85 u86 u87 u88 u89 u90 u91 u92 u93 u94 u95 u96 u97 u98 u99 u100 u101 u102 u103 u104 u105 u106 u107 u108 u109 u110 u111 u112 u113 u114 u115 u116 u117 u118 bv v : Value} {p k : Nat} {s : LS} {rows : List (TT × Value)} {wr : World} (Q0 : Exit → Act → World → Prop) 
    (hc : shape[p]? = some 83) (hG : GSt E lv en b w kd s.i s.j s.n nv nm (.ok k) bv s.bnd rows v wr) (hb1 : rows.length ≤ 13 * p) (hb2 : s.bnd.length ≤ p) (hb3 : s.i ≤ 1100000000000 ∧ s.j ≤ 1100000000000 ∧ s.n ≤ 21) (hL : LsRel E F nm kd k0 total (shape.drop p) s rows (.ok k)) (hsh : shape.length ≤ 8) :
    Code.wp Tryd.prog lbody (Exit.then (fun a' w'' => WI E lv en b w kd ofl k0 shape nv nm F total c3 c4 c5 c12 c13 c14 c15 c16 c17 c18 c19 c119 c120 c121 a' w'' ∧ Wmu shape a' w'' < Wmu shape ⟨#[.pointer (some ⟨b, 0, none⟩), .int .i64 (kd : Nat), .string ⟨shape.toArray⟩, c3, c4, c5, .pointer (some ⟨w.heap.size, 0, none⟩), .pointer (some ⟨w.heap.size + 1, 0, none⟩), .int .i64 (ofl : Nat), nv, bv, .int .i64 (p : Nat), c12, c13, c14, c15, c16, c17, c18, c19, u20, u21, u22, u23, u24, u25, u26, u27, u28, u29, u30, u31, u32, u33, u34, u35, u36, u37, u38, u39, u40, u41, u42, u43, u44, u45, u46, u47, u48, u49, u50, u51, u52, u53, u54, u55, u56, u57, u58, u59, u60, u61, u62, u63, u64, u65, u66, u67, u68, u69, u70, u71, u72, u73, u74, u75, u76, u77, u78, u79, u80, u81, u82, u83, u84, u85, u86, u87, u88, u89, u90, u91, u92, u93, u94, u95, u96, u97, u98, u99, u100, u101, u102, u103, u104, u105, u106, u107, u108, u109, u110, u111, u112, u113, u114, u115, u116, u117, u118, c119, c120, c121], []⟩ wr) Q0) ⟨#[.pointer (some ⟨b, 0, none⟩), .int .i64 (kd : Nat), .string ⟨shape.toArray⟩, c3, c4, c5, .pointer (some ⟨w.heap.size, 0, none⟩), .pointer (some ⟨w.heap.size + 1, 0, none⟩), .int .i64 (ofl : Nat), nv, bv, .int .i64 (p : Nat), c12, c13, c14, c15, c16, c17, c18, c19, u20, u21, u22, u23, u24, u25, u26, u27, u28, u29, u30, u31, u32, u33, u34, u35, u36, u37, u38, u39, u40, u41, u42, u43, u44, u45, u46, u47, u48, u49, u50, u51, u52, u53, u54, u55, u56, u57, u58, u59, u60, u61, u62, u63, u64, u65, u66, u67, u68, u69, u70, u71, u72, u73, u74, u75, u76, u77, u78, u79, u80, u81, u82, u83, u84, u85, u86, u87, u88, u89, u90, u91, u92, u93, u94, u95, u96, u97, u98, u99, u100, u101, u102, u103, u104, u105, u106, u107, u108, u109, u110, u111, u112, u113, u114, u115, u116, u117, u118, c119, c120, c121], []⟩ wr := by
  have hp : p < shape.length := (List.getElem?_eq_some_iff.1 hc).1
  have hpi : (p : Int) < (shape.length : Int) := by omega
  have HC := Lib.hid hc
  have HL := Lib.hid (ls_step hc hL)
  have HG := Lib.hid hG
  have HB := Lib.hid (And.intro hb1 (And.intro hb2 hb3))
  have hsz : (ByteArray.mk shape.toArray).size = shape.length := by simp [ByteArray.size]
  have hps : p < (ByteArray.mk shape.toArray).size := by rw [hsz]; exact hp
  have hby : (ByteArray.mk shape.toArray)[p]'hps = 83 := by
    have h1 : shape[p] = 83 := (List.getElem?_eq_some_iff.1 hc).2
    rw [← h1]; simp [ByteArray.getElem_eq_getElem_data]
  have l76 : ((((ByteArray.mk shape.toArray)[p]'hps).toNat : Int) == 76) = false := by rw [hby]; decide
  have l77 : ((((ByteArray.mk shape.toArray)[p]'hps).toNat : Int) == 77) = false := by rw [hby]; decide
  have l83 : ((((ByteArray.mk shape.toArray)[p]'hps).toNat : Int) == 83) = true := by rw [hby]; decide
  have l120 : ((((ByteArray.mk shape.toArray)[p]'hps).toNat : Int) == 120) = false := by rw [hby]; decide
  have l121 : ((((ByteArray.mk shape.toArray)[p]'hps).toNat : Int) == 121) = false := by rw [hby]; decide
  have l101 : ((((ByteArray.mk shape.toArray)[p]'hps).toNat : Int) == 101) = false := by rw [hby]; decide
  have l116 : ((((ByteArray.mk shape.toArray)[p]'hps).toNat : Int) == 116) = false := by rw [hby]; decide
  have l112 : ((((ByteArray.mk shape.toArray)[p]'hps).toNat : Int) == 112) = false := by rw [hby]; decide
  clear hby
  obtain ⟨c0, c1, c2, c3', c4', c5', c6, c7⟩ := hG.tn.1.at
  obtain ⟨e0, e1, e2, e3, e4, q0, q1, q2, q3, q4⟩ := cells5 hG.box
  clear hG hL hb1 hb2 hb3 hc
  conv => arg 2; whnf
  have hwn := HB.out.2.2.2.2
  have hle := HG.out.tn.1.le
  have hlm := HG.out.tn.1.len
  by_cases hk3 : kindAt E.l k = 3
  · go_wp2_with fail
    refine (next_ok 3 (by decide) hk3 HG.out.tn.1).mono ?_
    rintro e w4 ⟨rfl, ht4⟩
    have HG4 := Lib.hid (HG.out.move ht4 (fun _ => rfl))
    clear ht4
    go_wp2_with fail
    refine (symbol_any _ _).mono ?_
    rintro e w5 ⟨rfl, hb5⟩
    have HG5 := Lib.hid (HG4.out.below hb5)
    clear hb5 c0 c1 c2 c3' c4' c5' c6 c7 e0 e1 e2 e3 e4 q0 q1 q2 q3 q4
    obtain ⟨e0, e1, e2, e3, e4, q0, q1, q2, q3, q4⟩ := cells5 HG5.out.box
    have hsy : symI (ByteArray.mk (textAt E.l k).toArray).data.toList = symI (textAt E.l k) := rfl
    rw [hsy]
    have HS := Lib.hid (symI_le (textAt E.l k))
    have HG6 := Lib.hid (HG5.out.setbox 3 (.int .i64 (symI (textAt E.l k))) rfl)
    by_cases hs0 : symI (textAt E.l k) = 0
    · have HR6 := Lib.hid (rel_S_bad (n := symI (textAt E.l k)) HL.out (fun _ => hs0))
      generalize symI (textAt E.l k) = sy at *
      have hsz0 : ((sy : Int) == 0) = true := by simp [hs0]
      clear hs0
      obtain ⟨d0, d1, d2, d3, d4, d5, d6, d7⟩ := HG5.out.tn.1.at
      simp only [Int.natCast_add, Int.natCast_one] at d1
      have hold := HG.out.old
      have hne1 : ¬ b = w.heap.size + 1 := by omega
      have hne2 : ¬ w.heap.size + 1 = b := by omega
      go_wp2_with fail
      refine (fail_ok k HG6.out.tn.1).mono ?_
      rintro e w7 ⟨rfl, ht7⟩
      have HG7 := Lib.hid (HG6.out.move ht7 (fun h => by cases h))
      clear ht7
      go_wp2
      refine ⟨?_, by simp [Wmu, intOf]; omega⟩
      unfold WI
      refine ⟨bv, p + 1, _, _, _, _, _, _, _, _, _, _, _, _, _, _, _, _, _, _, _, _, _, _, _, _, _, _, _, _, _, _, _, _, _, _, _, _, _, _, _, _, _, _, _, _, _, _, _, _, _, _, _, _, _, _, _, _, _, _, _, _, _, _, _, _, _, _, _, _, _, _, _, _, _, _, _, _, _, _, _, _, _, _, _, _, _, _, _, _, _, _, _, _, _, _, _, _, _, _, _, ?_, rfl⟩
      exact ⟨_, { s with n := sy }, rows, v, HG7.out, by have := HB.out.1; omega, by have := HB.out.2.1; simp only; omega, by omega, ⟨HB.out.2.2.1, HB.out.2.2.2.1, HS.out⟩, HR6.out⟩
    · have HR6 := Lib.hid (rel_S_ok HL.out hk3 hs0)
      generalize symI (textAt E.l k) = sy at *
      have hsz0 : ((sy : Int) == 0) = false := by simp; omega
      go_wp2
      refine ⟨?_, by simp [Wmu, intOf]; omega⟩
      unfold WI
      refine ⟨bv, p + 1, _, _, _, _, _, _, _, _, _, _, _, _, _, _, _, _, _, _, _, _, _, _, _, _, _, _, _, _, _, _, _, _, _, _, _, _, _, _, _, _, _, _, _, _, _, _, _, _, _, _, _, _, _, _, _, _, _, _, _, _, _, _, _, _, _, _, _, _, _, _, _, _, _, _, _, _, _, _, _, _, _, _, _, _, _, _, _, _, _, _, _, _, _, _, _, _, _, _, _, ?_, rfl⟩
      exact ⟨_, { s with n := sy }, rows, v, HG6.out, by have := HB.out.1; omega, by have := HB.out.2.1; simp only; omega, by omega, ⟨HB.out.2.2.1, HB.out.2.2.2.1, HS.out⟩, HR6.out⟩
  · go_wp2_with fail
    refine (next_miss 3 (by decide) hk3 HG.out.tn.1).mono ?_
    rintro e w4 ⟨rfl, ht4⟩
    have HG4 := Lib.hid (HG.out.move ht4 (fun h => by cases h))
    clear ht4
    go_wp2_with fail
    refine (symbol_any _ _).mono ?_
    rintro e w5 ⟨rfl, hb5⟩
    have HG5 := Lib.hid (HG4.out.below hb5)
    clear hb5 c0 c1 c2 c3' c4' c5' c6 c7 e0 e1 e2 e3 e4 q0 q1 q2 q3 q4
    obtain ⟨e0, e1, e2, e3, e4, q0, q1, q2, q3, q4⟩ := cells5 HG5.out.box
    have hsy : ((symI (ByteArray.mk #[]).data.toList : Nat) : Int) = 0 := by decide
    rw [hsy]
    have HG6 := Lib.hid (HG5.out.setbox 3 (.int .i64 (0 : Nat)) rfl)
    have HR6 := Lib.hid (rel_S_bad (n := 0) HL.out (fun h => absurd h hk3))
    obtain ⟨kk, x', h0, h1, h2, d0, d1, d2, d3, d6, d7⟩ := HG5.out.tn.1.at'
    have hold := HG.out.old
    have hne1 : ¬ b = w.heap.size + 1 := by omega
    have hne2 : ¬ w.heap.size + 1 = b := by omega
    clear h2
    go_wp2_with fail
    refine (fail_bad _ HG6.out.tn.1).mono ?_
    rintro e w7 ⟨rfl, rfl⟩
    go_wp2
    refine ⟨?_, by simp [Wmu, intOf]; omega⟩
    unfold WI
    refine ⟨bv, p + 1, _, _, _, _, _, _, _, _, _, _, _, _, _, _, _, _, _, _, _, _, _, _, _, _, _, _, _, _, _, _, _, _, _, _, _, _, _, _, _, _, _, _, _, _, _, _, _, _, _, _, _, _, _, _, _, _, _, _, _, _, _, _, _, _, _, _, _, _, _, _, _, _, _, _, _, _, _, _, _, _, _, _, _, _, _, _, _, _, _, _, _, _, _, _, _, _, _, _, _, ?_, rfl⟩
    exact ⟨_, { s with n := 0 }, rows, v, HG6.out, by have := HB.out.1; omega, by have := HB.out.2.1; simp only; omega, by omega, ⟨HB.out.2.2.1, HB.out.2.2.2.1, Nat.zero_le _⟩, HR6.out⟩
end Go.Proofs.YtfklmcmoackepaaDoor
