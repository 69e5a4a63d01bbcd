/- A round of the reader's list: a name that is bound. -/
import Derived.Test.YtfklmcmoackepaaDoorSj2
namespace Go.Proofs.YtfklmcmoackepaaDoor
open Go.RowKit

theorem rel_x {E : REnv} {F : List (List UInt8) → Nat → Nat → RR TT} {nm : List (List UInt8)} {kd k0 : Nat} {total : RR LS} {cs : List UInt8} {s : LS} {rows : List (TT × Value)} {k : Nat} {c : UInt8} (hc : c = 120 ∨ c = 121 ∨ c = 101)
    (h : (itemM E F nm kd c s k).bind (fun s' k' => itemsM E F nm kd cs s' k') = total ∧ k0 ≤ k ∧ s.bnd.length + k0 ≤ k ∧ rows.map Prod.fst = s.kids) :
    (kindAt E.l k = 3 → LsRel E F nm kd k0 total cs { s with bnd := s.bnd ++ [textAt E.l k] } rows (.ok (k + 1))) ∧ (kindAt E.l k ≠ 3 → ∀ y, LsRel E F nm kd k0 total cs { s with bnd := y } rows (.bad k)) := by
  have e : itemM E F nm kd c s k = (wordM E k).bind fun x k' => .ok { s with bnd := s.bnd ++ [x] } k' := by
    unfold itemM
    rw [if_neg (by rcases hc with rfl | rfl | rfl <;> decide), if_neg (by rcases hc with rfl | rfl | rfl <;> decide), if_neg (by rcases hc with rfl | rfl | rfl <;> decide), if_pos hc]
  rw [e] at h
  unfold wordM at h
  refine ⟨fun hk => ?_, fun hk y => ?_⟩
  · rw [if_pos hk] at h
    exact ⟨h.1, by omega, by have := h.2.2.1; simp only [List.length_append, List.length_singleton] at *; omega, h.2.2.2⟩
  · rw [if_neg hk] at h
    exact h.1.symm
theorem textRow_snoc (l : List (List UInt8)) (x : List UInt8) : textRow (l ++ [x]) = textRow l ++ [.string ⟨x.toArray⟩] := by simp [textRow]

set_option maxHeartbeats 4000000 in
set_option maxRecDepth 1000000 in
theorem case_x {E : REnv} {lv : Value} {en : Int} {b : Nat} {w : World} {kd ofl k0 : Nat} {shape : List UInt8} {nv : Value} {nm : List (List UInt8)} {F : List (List UInt8) → Nat → Nat → RR TT} {total : RR LS} {c3 c4 c5 c12 c13 c14 c15 c16 c17 c18 c19 c119 c120 c121 : Value} {u20 u21 u22 u23 u24 u25 u26 u27 u28 u29 u30 u31 u32 u33 u34 u35 u36 u37 u38 u39 u40 u41 u42 u43 u44 u45 u46 u47 u48 u49 u50 u51 u52 u53 u54 u55 u56 u57 u58 u59 u60 u61 u62 u63 u64 u65 u66 u67 u68 u69 u70 u71 u72 u73 u74 u75 u76 u77 u78 u79 u80 u81 u82 u83 u84 u85 u86 u87 u88 u89 u90 u91 u92 u93 u94 u95 u96 u97 u98 u99 u100 u101 u102 u103 u104 u105 u106 u107 u108 u109 u110 u111 u112 u113 u114 u115 u116 u117 u118 bv v : Value} {p k : Nat} {s : LS} {rows : List (TT × Value)} {wr : World} (Q0 : Exit → Act → World → Prop) (hnvo : ∀ x, nv.ownBlock = some x → x < w.heap.size)
    (hc : shape[p]? = some 120) (hG : GSt E lv en b w kd s.i s.j s.n nv nm (.ok k) bv s.bnd rows v wr) (hb1 : rows.length ≤ 13 * p) (hb2 : s.bnd.length ≤ p) (hb3 : s.i ≤ 1100000000000 ∧ s.j ≤ 1100000000000 ∧ s.n ≤ 21) (hL : LsRel E F nm kd k0 total (shape.drop p) s rows (.ok k)) (hsh : shape.length ≤ 8) :
    Code.wp Tryd.prog lbody (Exit.then (fun a' w'' => WI E lv en b w kd ofl k0 shape nv nm F total c3 c4 c5 c12 c13 c14 c15 c16 c17 c18 c19 c119 c120 c121 a' w'' ∧ Wmu shape a' w'' < Wmu shape ⟨#[.pointer (some ⟨b, 0, none⟩), .int .i64 (kd : Nat), .string ⟨shape.toArray⟩, c3, c4, c5, .pointer (some ⟨w.heap.size, 0, none⟩), .pointer (some ⟨w.heap.size + 1, 0, none⟩), .int .i64 (ofl : Nat), nv, bv, .int .i64 (p : Nat), c12, c13, c14, c15, c16, c17, c18, c19, u20, u21, u22, u23, u24, u25, u26, u27, u28, u29, u30, u31, u32, u33, u34, u35, u36, u37, u38, u39, u40, u41, u42, u43, u44, u45, u46, u47, u48, u49, u50, u51, u52, u53, u54, u55, u56, u57, u58, u59, u60, u61, u62, u63, u64, u65, u66, u67, u68, u69, u70, u71, u72, u73, u74, u75, u76, u77, u78, u79, u80, u81, u82, u83, u84, u85, u86, u87, u88, u89, u90, u91, u92, u93, u94, u95, u96, u97, u98, u99, u100, u101, u102, u103, u104, u105, u106, u107, u108, u109, u110, u111, u112, u113, u114, u115, u116, u117, u118, c119, c120, c121], []⟩ wr) Q0) ⟨#[.pointer (some ⟨b, 0, none⟩), .int .i64 (kd : Nat), .string ⟨shape.toArray⟩, c3, c4, c5, .pointer (some ⟨w.heap.size, 0, none⟩), .pointer (some ⟨w.heap.size + 1, 0, none⟩), .int .i64 (ofl : Nat), nv, bv, .int .i64 (p : Nat), c12, c13, c14, c15, c16, c17, c18, c19, u20, u21, u22, u23, u24, u25, u26, u27, u28, u29, u30, u31, u32, u33, u34, u35, u36, u37, u38, u39, u40, u41, u42, u43, u44, u45, u46, u47, u48, u49, u50, u51, u52, u53, u54, u55, u56, u57, u58, u59, u60, u61, u62, u63, u64, u65, u66, u67, u68, u69, u70, u71, u72, u73, u74, u75, u76, u77, u78, u79, u80, u81, u82, u83, u84, u85, u86, u87, u88, u89, u90, u91, u92, u93, u94, u95, u96, u97, u98, u99, u100, u101, u102, u103, u104, u105, u106, u107, u108, u109, u110, u111, u112, u113, u114, u115, u116, u117, u118, c119, c120, c121], []⟩ wr := by
  have hp : p < shape.length := (List.getElem?_eq_some_iff.1 hc).1
  have hpi : (p : Int) < (shape.length : Int) := by omega
  have HC := Lib.hid hc
  have HL := Lib.hid (ls_step hc hL)
  have HG := Lib.hid hG
  have HB := Lib.hid (And.intro hb1 (And.intro hb2 hb3))
  have hsz : (ByteArray.mk shape.toArray).size = shape.length := by simp [ByteArray.size]
  have hps : p < (ByteArray.mk shape.toArray).size := by rw [hsz]; exact hp
  have hby : (ByteArray.mk shape.toArray)[p]'hps = 120 := by
    have h1 : shape[p] = 120 := (List.getElem?_eq_some_iff.1 hc).2
    rw [← h1]; simp [ByteArray.getElem_eq_getElem_data]
  have l76 : ((((ByteArray.mk shape.toArray)[p]'hps).toNat : Int) == 76) = false := by rw [hby]; decide
  have l77 : ((((ByteArray.mk shape.toArray)[p]'hps).toNat : Int) == 77) = false := by rw [hby]; decide
  have l83 : ((((ByteArray.mk shape.toArray)[p]'hps).toNat : Int) == 83) = false := by rw [hby]; decide
  have l120 : ((((ByteArray.mk shape.toArray)[p]'hps).toNat : Int) == 120) = true := by rw [hby]; decide
  have l121 : ((((ByteArray.mk shape.toArray)[p]'hps).toNat : Int) == 121) = false := by rw [hby]; decide
  have l101 : ((((ByteArray.mk shape.toArray)[p]'hps).toNat : Int) == 101) = false := by rw [hby]; decide
  have l116 : ((((ByteArray.mk shape.toArray)[p]'hps).toNat : Int) == 116) = false := by rw [hby]; decide
  have l112 : ((((ByteArray.mk shape.toArray)[p]'hps).toNat : Int) == 112) = false := by rw [hby]; decide
  clear hby
  obtain ⟨c0, c1, c2, c3', c4', c5', c6, c7⟩ := hG.tn.1.at
  obtain ⟨e0, e1, e2, e3, e4, q0, q1, q2, q3, q4⟩ := cells5 hG.box
  clear hG hL hb1 hb2 hb3 hc
  conv => arg 2; whnf
  have HNV := Lib.hid hnvo
  obtain ⟨i1, hi, hi0, hi1, hi2⟩ := info_parts Tryd.infoStr
  have HI := Lib.hid (And.intro hi (And.intro hi0 (And.intro hi1 hi2)))
  clear hnvo hi hi0 hi1 hi2
  have hbl : s.bnd.length ≤ 8 := by have := HB.out.2.1; omega
  obtain ⟨HRok, HRbad⟩ := rel_x (by decide) HL.out
  have HRok := Lib.hid HRok
  have HRbad := Lib.hid HRbad
  by_cases hk3 : kindAt E.l k = 3
  · go_wp2_with fail
    refine (next_ok 3 (by decide) hk3 HG.out.tn.1).mono ?_
    rintro e w4 ⟨rfl, ht4⟩
    have HG4 := Lib.hid (HG.out.move ht4 (fun _ => rfl))
    clear ht4 c0 c1 c2 c3' c4' c5' c6 c7 e0 e1 e2 e3 e4 q0 q1 q2 q3 q4
    have HG5 := Lib.hid (HG4.out.alloc (.cells #[.string ⟨(textAt E.l k).toArray⟩] 9))
    have hsz4 : w.heap.size + 2 ≤ w4.heap.size := (Array.getElem?_eq_some_iff.1 HG4.out.box).1
    obtain ⟨hi, hi0, hi1, hi2⟩ := HI.out
    go_wp2_with (at_builtin; go_must (refine wpList_append_lies _ rfl (.tmp 91) (.tmp 94) 42 rfl (w.heap.size + 2) 9 i1 _ 1 16 Tryd.underlying42 hi hi0 hi1 hi2 rfl (by decide) bv s.bnd.length (textRow s.bnd) rfl ?own ⟨w4.heap.size, 0, none⟩ 1 1 [.string ⟨(textAt E.l k).toArray⟩] rfl rfl ?news ?one (by decide) ?c3 ?c4 ?c5 (w4.heap.size + 1) ?c6 ?_))
    case own => exact HG5.out.ownb
    case news => exact World.news_of_block (cs := #[.string ⟨(textAt E.l k).toArray⟩]) (t := 9) (fr := (0, 0)) (new_heap w4 _ _)
    case one => intro u hu; simp at hu; subst hu; rfl
    case c3 => unfold maxLen; omega
    case c4 => omega
    case c5 => simp; omega
    case c6 => simp
    intro g cap w5 hown5 hgrow5 hat5 hlt5
    have HG6 := Lib.hid (GSt.bound (bv' := .slice (some ⟨g, 0, none⟩) (s.bnd.length + 1) cap) (bnd' := s.bnd ++ [textAt E.l k]) HG5.out hgrow5 (fun g' hg' => by
      simp only [Value.ownBlock, Option.some.injEq] at hg'
      subst hg'
      rcases hat5 with h | h
      · exact .inl h
      · right; simp; omega) (fun x hx he => by have h1 := (HG.out.ownb.lt x he.symm).1; have h2 := HNV.out x hx; omega) (by rw [textRow_snoc]; simpa using hown5))
    clear hown5 hgrow5 hat5 hlt5 hi hi0 hi1 hi2
    go_wp2
    refine ⟨?_, by simp [Wmu, intOf]; omega⟩
    unfold WI
    refine ⟨_, p + 1, _, _, _, _, _, _, _, _, _, _, _, _, _, _, _, _, _, _, _, _, _, _, _, _, _, _, _, _, _, _, _, _, _, _, _, _, _, _, _, _, _, _, _, _, _, _, _, _, _, _, _, _, _, _, _, _, _, _, _, _, _, _, _, _, _, _, _, _, _, _, _, _, _, _, _, _, _, _, _, _, _, _, _, _, _, _, _, _, _, _, _, _, _, _, _, _, _, _, _, ?_, rfl⟩
    exact ⟨_, { s with bnd := s.bnd ++ [textAt E.l k] }, rows, v, HG6.out, by have := HB.out.1; omega, by have := HB.out.2.1; simp only [List.length_append, List.length_singleton]; omega, by omega, HB.out.2.2, HRok.out hk3⟩
  · go_wp2_with fail
    refine (next_miss 3 (by decide) hk3 HG.out.tn.1).mono ?_
    rintro e w4 ⟨rfl, ht4⟩
    have HG4 := Lib.hid (HG.out.move ht4 (fun h => by cases h))
    clear ht4 c0 c1 c2 c3' c4' c5' c6 c7 e0 e1 e2 e3 e4 q0 q1 q2 q3 q4
    have HG5 := Lib.hid (HG4.out.alloc (.cells #[.string ⟨(([] : List UInt8)).toArray⟩] 9))
    have hsz4 : w.heap.size + 2 ≤ w4.heap.size := (Array.getElem?_eq_some_iff.1 HG4.out.box).1
    obtain ⟨hi, hi0, hi1, hi2⟩ := HI.out
    go_wp2_with (at_builtin; go_must (refine wpList_append_lies _ rfl (.tmp 91) (.tmp 94) 42 rfl (w.heap.size + 2) 9 i1 _ 1 16 Tryd.underlying42 hi hi0 hi1 hi2 rfl (by decide) bv s.bnd.length (textRow s.bnd) rfl ?own ⟨w4.heap.size, 0, none⟩ 1 1 [.string ⟨(([] : List UInt8)).toArray⟩] rfl rfl ?news ?one (by decide) ?c3 ?c4 ?c5 (w4.heap.size + 1) ?c6 ?_))
    case own => exact HG5.out.ownb
    case news => exact World.news_of_block (cs := #[.string ⟨(([] : List UInt8)).toArray⟩]) (t := 9) (fr := (0, 0)) (new_heap w4 _ _)
    case one => intro u hu; simp at hu; subst hu; rfl
    case c3 => unfold maxLen; omega
    case c4 => omega
    case c5 => simp; omega
    case c6 => simp
    intro g cap w5 hown5 hgrow5 hat5 hlt5
    have HG6 := Lib.hid (GSt.bound (bv' := .slice (some ⟨g, 0, none⟩) (s.bnd.length + 1) cap) (bnd' := s.bnd ++ [([] : List UInt8)]) HG5.out hgrow5 (fun g' hg' => by
      simp only [Value.ownBlock, Option.some.injEq] at hg'
      subst hg'
      rcases hat5 with h | h
      · exact .inl h
      · right; simp; omega) (fun x hx he => by have h1 := (HG.out.ownb.lt x he.symm).1; have h2 := HNV.out x hx; omega) (by rw [textRow_snoc]; simpa using hown5))
    clear hown5 hgrow5 hat5 hlt5 hi hi0 hi1 hi2
    go_wp2
    refine ⟨?_, by simp [Wmu, intOf]; omega⟩
    unfold WI
    refine ⟨_, p + 1, _, _, _, _, _, _, _, _, _, _, _, _, _, _, _, _, _, _, _, _, _, _, _, _, _, _, _, _, _, _, _, _, _, _, _, _, _, _, _, _, _, _, _, _, _, _, _, _, _, _, _, _, _, _, _, _, _, _, _, _, _, _, _, _, _, _, _, _, _, _, _, _, _, _, _, _, _, _, _, _, _, _, _, _, _, _, _, _, _, _, _, _, _, _, _, _, _, _, _, ?_, rfl⟩
    exact ⟨_, { s with bnd := s.bnd ++ [([] : List UInt8)] }, rows, v, HG6.out, by have := HB.out.1; omega, by have := HB.out.2.1; simp only [List.length_append, List.length_singleton]; omega, by omega, HB.out.2.2, HRbad.out hk3 _⟩

set_option maxHeartbeats 4000000 in
set_option maxRecDepth 1000000 in
theorem case_y {E : REnv} {lv : Value} {en : Int} {b : Nat} {w : World} {kd ofl k0 : Nat} {shape : List UInt8} {nv : Value} {nm : List (List UInt8)} {F : List (List UInt8) → Nat → Nat → RR TT} {total : RR LS} {c3 c4 c5 c12 c13 c14 c15 c16 c17 c18 c19 c119 c120 c121 : Value} {u20 u21 u22 u23 u24 u25 u26 u27 u28 u29 u30 u31 u32 u33 u34 u35 u36 u37 u38 u39 u40 u41 u42 u43 u44 u45 u46 u47 u48 u49 u50 u51 u52 u53 u54 u55 u56 u57 u58 u59 u60 u61 u62 u63 u64 u65 u66 u67 u68 u69 u70 u71 u72 u73 u74 u75 u76 u77 u78 u79 u80 u81 u82 u83 u84 u85 u86 u87 u88 u89 u90 u91 u92 u93 u94 u95 u96 u97 u98 u99 u100 u101 u102 u103 u104 u105 u106 u107 u108 u109 u110 u111 u112 u113 u114 u115 u116 u117 u118 bv v : Value} {p k : Nat} {s : LS} {rows : List (TT × Value)} {wr : World} (Q0 : Exit → Act → World → Prop) (hnvo : ∀ x, nv.ownBlock = some x → x < w.heap.size)
    (hc : shape[p]? = some 121) (hG : GSt E lv en b w kd s.i s.j s.n nv nm (.ok k) bv s.bnd rows v wr) (hb1 : rows.length ≤ 13 * p) (hb2 : s.bnd.length ≤ p) (hb3 : s.i ≤ 1100000000000 ∧ s.j ≤ 1100000000000 ∧ s.n ≤ 21) (hL : LsRel E F nm kd k0 total (shape.drop p) s rows (.ok k)) (hsh : shape.length ≤ 8) :
    Code.wp Tryd.prog lbody (Exit.then (fun a' w'' => WI E lv en b w kd ofl k0 shape nv nm F total c3 c4 c5 c12 c13 c14 c15 c16 c17 c18 c19 c119 c120 c121 a' w'' ∧ Wmu shape a' w'' < Wmu shape ⟨#[.pointer (some ⟨b, 0, none⟩), .int .i64 (kd : Nat), .string ⟨shape.toArray⟩, c3, c4, c5, .pointer (some ⟨w.heap.size, 0, none⟩), .pointer (some ⟨w.heap.size + 1, 0, none⟩), .int .i64 (ofl : Nat), nv, bv, .int .i64 (p : Nat), c12, c13, c14, c15, c16, c17, c18, c19, u20, u21, u22, u23, u24, u25, u26, u27, u28, u29, u30, u31, u32, u33, u34, u35, u36, u37, u38, u39, u40, u41, u42, u43, u44, u45, u46, u47, u48, u49, u50, u51, u52, u53, u54, u55, u56, u57, u58, u59, u60, u61, u62, u63, u64, u65, u66, u67, u68, u69, u70, u71, u72, u73, u74, u75, u76, u77, u78, u79, u80, u81, u82, u83, u84, u85, u86, u87, u88, u89, u90, u91, u92, u93, u94, u95, u96, u97, u98, u99, u100, u101, u102, u103, u104, u105, u106, u107, u108, u109, u110, u111, u112, u113, u114, u115, u116, u117, u118, c119, c120, c121], []⟩ wr) Q0) ⟨#[.pointer (some ⟨b, 0, none⟩), .int .i64 (kd : Nat), .string ⟨shape.toArray⟩, c3, c4, c5, .pointer (some ⟨w.heap.size, 0, none⟩), .pointer (some ⟨w.heap.size + 1, 0, none⟩), .int .i64 (ofl : Nat), nv, bv, .int .i64 (p : Nat), c12, c13, c14, c15, c16, c17, c18, c19, u20, u21, u22, u23, u24, u25, u26, u27, u28, u29, u30, u31, u32, u33, u34, u35, u36, u37, u38, u39, u40, u41, u42, u43, u44, u45, u46, u47, u48, u49, u50, u51, u52, u53, u54, u55, u56, u57, u58, u59, u60, u61, u62, u63, u64, u65, u66, u67, u68, u69, u70, u71, u72, u73, u74, u75, u76, u77, u78, u79, u80, u81, u82, u83, u84, u85, u86, u87, u88, u89, u90, u91, u92, u93, u94, u95, u96, u97, u98, u99, u100, u101, u102, u103, u104, u105, u106, u107, u108, u109, u110, u111, u112, u113, u114, u115, u116, u117, u118, c119, c120, c121], []⟩ wr := by
  have hp : p < shape.length := (List.getElem?_eq_some_iff.1 hc).1
  have hpi : (p : Int) < (shape.length : Int) := by omega
  have HC := Lib.hid hc
  have HL := Lib.hid (ls_step hc hL)
  have HG := Lib.hid hG
  have HB := Lib.hid (And.intro hb1 (And.intro hb2 hb3))
  have hsz : (ByteArray.mk shape.toArray).size = shape.length := by simp [ByteArray.size]
  have hps : p < (ByteArray.mk shape.toArray).size := by rw [hsz]; exact hp
  have hby : (ByteArray.mk shape.toArray)[p]'hps = 121 := by
    have h1 : shape[p] = 121 := (List.getElem?_eq_some_iff.1 hc).2
    rw [← h1]; simp [ByteArray.getElem_eq_getElem_data]
  have l76 : ((((ByteArray.mk shape.toArray)[p]'hps).toNat : Int) == 76) = false := by rw [hby]; decide
  have l77 : ((((ByteArray.mk shape.toArray)[p]'hps).toNat : Int) == 77) = false := by rw [hby]; decide
  have l83 : ((((ByteArray.mk shape.toArray)[p]'hps).toNat : Int) == 83) = false := by rw [hby]; decide
  have l120 : ((((ByteArray.mk shape.toArray)[p]'hps).toNat : Int) == 120) = false := by rw [hby]; decide
  have l121 : ((((ByteArray.mk shape.toArray)[p]'hps).toNat : Int) == 121) = true := by rw [hby]; decide
  have l101 : ((((ByteArray.mk shape.toArray)[p]'hps).toNat : Int) == 101) = false := by rw [hby]; decide
  have l116 : ((((ByteArray.mk shape.toArray)[p]'hps).toNat : Int) == 116) = false := by rw [hby]; decide
  have l112 : ((((ByteArray.mk shape.toArray)[p]'hps).toNat : Int) == 112) = false := by rw [hby]; decide
  clear hby
  obtain ⟨c0, c1, c2, c3', c4', c5', c6, c7⟩ := hG.tn.1.at
  obtain ⟨e0, e1, e2, e3, e4, q0, q1, q2, q3, q4⟩ := cells5 hG.box
  clear hG hL hb1 hb2 hb3 hc
  conv => arg 2; whnf
  have HNV := Lib.hid hnvo
  obtain ⟨i1, hi, hi0, hi1, hi2⟩ := info_parts Tryd.infoStr
  have HI := Lib.hid (And.intro hi (And.intro hi0 (And.intro hi1 hi2)))
  clear hnvo hi hi0 hi1 hi2
  have hbl : s.bnd.length ≤ 8 := by have := HB.out.2.1; omega
  obtain ⟨HRok, HRbad⟩ := rel_x (by decide) HL.out
  have HRok := Lib.hid HRok
  have HRbad := Lib.hid HRbad
  by_cases hk3 : kindAt E.l k = 3
  · go_wp2_with fail
    refine (next_ok 3 (by decide) hk3 HG.out.tn.1).mono ?_
    rintro e w4 ⟨rfl, ht4⟩
    have HG4 := Lib.hid (HG.out.move ht4 (fun _ => rfl))
    clear ht4 c0 c1 c2 c3' c4' c5' c6 c7 e0 e1 e2 e3 e4 q0 q1 q2 q3 q4
    have HG5 := Lib.hid (HG4.out.alloc (.cells #[.string ⟨(textAt E.l k).toArray⟩] 9))
    have hsz4 : w.heap.size + 2 ≤ w4.heap.size := (Array.getElem?_eq_some_iff.1 HG4.out.box).1
    obtain ⟨hi, hi0, hi1, hi2⟩ := HI.out
    go_wp2_with (at_builtin; go_must (refine wpList_append_lies _ rfl (.tmp 91) (.tmp 94) 42 rfl (w.heap.size + 2) 9 i1 _ 1 16 Tryd.underlying42 hi hi0 hi1 hi2 rfl (by decide) bv s.bnd.length (textRow s.bnd) rfl ?own ⟨w4.heap.size, 0, none⟩ 1 1 [.string ⟨(textAt E.l k).toArray⟩] rfl rfl ?news ?one (by decide) ?c3 ?c4 ?c5 (w4.heap.size + 1) ?c6 ?_))
    case own => exact HG5.out.ownb
    case news => exact World.news_of_block (cs := #[.string ⟨(textAt E.l k).toArray⟩]) (t := 9) (fr := (0, 0)) (new_heap w4 _ _)
    case one => intro u hu; simp at hu; subst hu; rfl
    case c3 => unfold maxLen; omega
    case c4 => omega
    case c5 => simp; omega
    case c6 => simp
    intro g cap w5 hown5 hgrow5 hat5 hlt5
    have HG6 := Lib.hid (GSt.bound (bv' := .slice (some ⟨g, 0, none⟩) (s.bnd.length + 1) cap) (bnd' := s.bnd ++ [textAt E.l k]) HG5.out hgrow5 (fun g' hg' => by
      simp only [Value.ownBlock, Option.some.injEq] at hg'
      subst hg'
      rcases hat5 with h | h
      · exact .inl h
      · right; simp; omega) (fun x hx he => by have h1 := (HG.out.ownb.lt x he.symm).1; have h2 := HNV.out x hx; omega) (by rw [textRow_snoc]; simpa using hown5))
    clear hown5 hgrow5 hat5 hlt5 hi hi0 hi1 hi2
    go_wp2
    refine ⟨?_, by simp [Wmu, intOf]; omega⟩
    unfold WI
    refine ⟨_, p + 1, _, _, _, _, _, _, _, _, _, _, _, _, _, _, _, _, _, _, _, _, _, _, _, _, _, _, _, _, _, _, _, _, _, _, _, _, _, _, _, _, _, _, _, _, _, _, _, _, _, _, _, _, _, _, _, _, _, _, _, _, _, _, _, _, _, _, _, _, _, _, _, _, _, _, _, _, _, _, _, _, _, _, _, _, _, _, _, _, _, _, _, _, _, _, _, _, _, _, _, ?_, rfl⟩
    exact ⟨_, { s with bnd := s.bnd ++ [textAt E.l k] }, rows, v, HG6.out, by have := HB.out.1; omega, by have := HB.out.2.1; simp only [List.length_append, List.length_singleton]; omega, by omega, HB.out.2.2, HRok.out hk3⟩
  · go_wp2_with fail
    refine (next_miss 3 (by decide) hk3 HG.out.tn.1).mono ?_
    rintro e w4 ⟨rfl, ht4⟩
    have HG4 := Lib.hid (HG.out.move ht4 (fun h => by cases h))
    clear ht4 c0 c1 c2 c3' c4' c5' c6 c7 e0 e1 e2 e3 e4 q0 q1 q2 q3 q4
    have HG5 := Lib.hid (HG4.out.alloc (.cells #[.string ⟨(([] : List UInt8)).toArray⟩] 9))
    have hsz4 : w.heap.size + 2 ≤ w4.heap.size := (Array.getElem?_eq_some_iff.1 HG4.out.box).1
    obtain ⟨hi, hi0, hi1, hi2⟩ := HI.out
    go_wp2_with (at_builtin; go_must (refine wpList_append_lies _ rfl (.tmp 91) (.tmp 94) 42 rfl (w.heap.size + 2) 9 i1 _ 1 16 Tryd.underlying42 hi hi0 hi1 hi2 rfl (by decide) bv s.bnd.length (textRow s.bnd) rfl ?own ⟨w4.heap.size, 0, none⟩ 1 1 [.string ⟨(([] : List UInt8)).toArray⟩] rfl rfl ?news ?one (by decide) ?c3 ?c4 ?c5 (w4.heap.size + 1) ?c6 ?_))
    case own => exact HG5.out.ownb
    case news => exact World.news_of_block (cs := #[.string ⟨(([] : List UInt8)).toArray⟩]) (t := 9) (fr := (0, 0)) (new_heap w4 _ _)
    case one => intro u hu; simp at hu; subst hu; rfl
    case c3 => unfold maxLen; omega
    case c4 => omega
    case c5 => simp; omega
    case c6 => simp
    intro g cap w5 hown5 hgrow5 hat5 hlt5
    have HG6 := Lib.hid (GSt.bound (bv' := .slice (some ⟨g, 0, none⟩) (s.bnd.length + 1) cap) (bnd' := s.bnd ++ [([] : List UInt8)]) HG5.out hgrow5 (fun g' hg' => by
      simp only [Value.ownBlock, Option.some.injEq] at hg'
      subst hg'
      rcases hat5 with h | h
      · exact .inl h
      · right; simp; omega) (fun x hx he => by have h1 := (HG.out.ownb.lt x he.symm).1; have h2 := HNV.out x hx; omega) (by rw [textRow_snoc]; simpa using hown5))
    clear hown5 hgrow5 hat5 hlt5 hi hi0 hi1 hi2
    go_wp2
    refine ⟨?_, by simp [Wmu, intOf]; omega⟩
    unfold WI
    refine ⟨_, p + 1, _, _, _, _, _, _, _, _, _, _, _, _, _, _, _, _, _, _, _, _, _, _, _, _, _, _, _, _, _, _, _, _, _, _, _, _, _, _, _, _, _, _, _, _, _, _, _, _, _, _, _, _, _, _, _, _, _, _, _, _, _, _, _, _, _, _, _, _, _, _, _, _, _, _, _, _, _, _, _, _, _, _, _, _, _, _, _, _, _, _, _, _, _, _, _, _, _, _, _, ?_, rfl⟩
    exact ⟨_, { s with bnd := s.bnd ++ [([] : List UInt8)] }, rows, v, HG6.out, by have := HB.out.1; omega, by have := HB.out.2.1; simp only [List.length_append, List.length_singleton]; omega, by omega, HB.out.2.2, HRbad.out hk3 _⟩

set_option maxHeartbeats 4000000 in
set_option maxRecDepth 1000000 in
theorem case_e {E : REnv} {lv : Value} {en : Int} {b : Nat} {w : World} {kd ofl k0 : Nat} {shape : List UInt8} {nv : Value} {nm : List (List UInt8)} {F : List (List UInt8) → Nat → Nat → RR TT} {total : RR LS} {c3 c4 c5 c12 c13 c14 c15 c16 c17 c18 c19 c119 c120 c121 : Value} {u20 u21 u22 u23 u24 u25 u26 u27 u28 u29 u30 u31 u32 u33 u34 u35 u36 u37 u38 u39 u40 u41 u42 u43 u44 u45 u46 u47 u48 u49 u50 u51 u52 u53 u54 u55 u56 u57 u58 u59 u60 u61 u62 u63 u64 u65 u66 u67 u68 u69 u70 u71 u72 u73 u74 u75 u76 u77 u78 u79 u80 u81 u82 u83 u84 u85 u86 u87 u88 u89 u90 u91 u92 u93 u94 u95 u96 u97 u98 u99 u100 u101 u102 u103 u104 u105 u106 u107 u108 u109 u110 u111 u112 u113 u114 u115 u116 u117 u118 bv v : Value} {p k : Nat} {s : LS} {rows : List (TT × Value)} {wr : World} (Q0 : Exit → Act → World → Prop) (hnvo : ∀ x, nv.ownBlock = some x → x < w.heap.size)
    (hc : shape[p]? = some 101) (hG : GSt E lv en b w kd s.i s.j s.n nv nm (.ok k) bv s.bnd rows v wr) (hb1 : rows.length ≤ 13 * p) (hb2 : s.bnd.length ≤ p) (hb3 : s.i ≤ 1100000000000 ∧ s.j ≤ 1100000000000 ∧ s.n ≤ 21) (hL : LsRel E F nm kd k0 total (shape.drop p) s rows (.ok k)) (hsh : shape.length ≤ 8) :
    Code.wp Tryd.prog lbody (Exit.then (fun a' w'' => WI E lv en b w kd ofl k0 shape nv nm F total c3 c4 c5 c12 c13 c14 c15 c16 c17 c18 c19 c119 c120 c121 a' w'' ∧ Wmu shape a' w'' < Wmu shape ⟨#[.pointer (some ⟨b, 0, none⟩), .int .i64 (kd : Nat), .string ⟨shape.toArray⟩, c3, c4, c5, .pointer (some ⟨w.heap.size, 0, none⟩), .pointer (some ⟨w.heap.size + 1, 0, none⟩), .int .i64 (ofl : Nat), nv, bv, .int .i64 (p : Nat), c12, c13, c14, c15, c16, c17, c18, c19, u20, u21, u22, u23, u24, u25, u26, u27, u28, u29, u30, u31, u32, u33, u34, u35, u36, u37, u38, u39, u40, u41, u42, u43, u44, u45, u46, u47, u48, u49, u50, u51, u52, u53, u54, u55, u56, u57, u58, u59, u60, u61, u62, u63, u64, u65, u66, u67, u68, u69, u70, u71, u72, u73, u74, u75, u76, u77, u78, u79, u80, u81, u82, u83, u84, u85, u86, u87, u88, u89, u90, u91, u92, u93, u94, u95, u96, u97, u98, u99, u100, u101, u102, u103, u104, u105, u106, u107, u108, u109, u110, u111, u112, u113, u114, u115, u116, u117, u118, c119, c120, c121], []⟩ wr) Q0) ⟨#[.pointer (some ⟨b, 0, none⟩), .int .i64 (kd : Nat), .string ⟨shape.toArray⟩, c3, c4, c5, .pointer (some ⟨w.heap.size, 0, none⟩), .pointer (some ⟨w.heap.size + 1, 0, none⟩), .int .i64 (ofl : Nat), nv, bv, .int .i64 (p : Nat), c12, c13, c14, c15, c16, c17, c18, c19, u20, u21, u22, u23, u24, u25, u26, u27, u28, u29, u30, u31, u32, u33, u34, u35, u36, u37, u38, u39, u40, u41, u42, u43, u44, u45, u46, u47, u48, u49, u50, u51, u52, u53, u54, u55, u56, u57, u58, u59, u60, u61, u62, u63, u64, u65, u66, u67, u68, u69, u70, u71, u72, u73, u74, u75, u76, u77, u78, u79, u80, u81, u82, u83, u84, u85, u86, u87, u88, u89, u90, u91, u92, u93, u94, u95, u96, u97, u98, u99, u100, u101, u102, u103, u104, u105, u106, u107, u108, u109, u110, u111, u112, u113, u114, u115, u116, u117, u118, c119, c120, c121], []⟩ wr := by
  have hp : p < shape.length := (List.getElem?_eq_some_iff.1 hc).1
  have hpi : (p : Int) < (shape.length : Int) := by omega
  have HC := Lib.hid hc
  have HL := Lib.hid (ls_step hc hL)
  have HG := Lib.hid hG
  have HB := Lib.hid (And.intro hb1 (And.intro hb2 hb3))
  have hsz : (ByteArray.mk shape.toArray).size = shape.length := by simp [ByteArray.size]
  have hps : p < (ByteArray.mk shape.toArray).size := by rw [hsz]; exact hp
  have hby : (ByteArray.mk shape.toArray)[p]'hps = 101 := by
    have h1 : shape[p] = 101 := (List.getElem?_eq_some_iff.1 hc).2
    rw [← h1]; simp [ByteArray.getElem_eq_getElem_data]
  have l76 : ((((ByteArray.mk shape.toArray)[p]'hps).toNat : Int) == 76) = false := by rw [hby]; decide
  have l77 : ((((ByteArray.mk shape.toArray)[p]'hps).toNat : Int) == 77) = false := by rw [hby]; decide
  have l83 : ((((ByteArray.mk shape.toArray)[p]'hps).toNat : Int) == 83) = false := by rw [hby]; decide
  have l120 : ((((ByteArray.mk shape.toArray)[p]'hps).toNat : Int) == 120) = false := by rw [hby]; decide
  have l121 : ((((ByteArray.mk shape.toArray)[p]'hps).toNat : Int) == 121) = false := by rw [hby]; decide
  have l101 : ((((ByteArray.mk shape.toArray)[p]'hps).toNat : Int) == 101) = true := by rw [hby]; decide
  have l116 : ((((ByteArray.mk shape.toArray)[p]'hps).toNat : Int) == 116) = false := by rw [hby]; decide
  have l112 : ((((ByteArray.mk shape.toArray)[p]'hps).toNat : Int) == 112) = false := by rw [hby]; decide
  clear hby
  obtain ⟨c0, c1, c2, c3', c4', c5', c6, c7⟩ := hG.tn.1.at
  obtain ⟨e0, e1, e2, e3, e4, q0, q1, q2, q3, q4⟩ := cells5 hG.box
  clear hG hL hb1 hb2 hb3 hc
  conv => arg 2; whnf
  have HNV := Lib.hid hnvo
  obtain ⟨i1, hi, hi0, hi1, hi2⟩ := info_parts Tryd.infoStr
  have HI := Lib.hid (And.intro hi (And.intro hi0 (And.intro hi1 hi2)))
  clear hnvo hi hi0 hi1 hi2
  have hbl : s.bnd.length ≤ 8 := by have := HB.out.2.1; omega
  obtain ⟨HRok, HRbad⟩ := rel_x (by decide) HL.out
  have HRok := Lib.hid HRok
  have HRbad := Lib.hid HRbad
  by_cases hk3 : kindAt E.l k = 3
  · go_wp2_with fail
    refine (next_ok 3 (by decide) hk3 HG.out.tn.1).mono ?_
    rintro e w4 ⟨rfl, ht4⟩
    have HG4 := Lib.hid (HG.out.move ht4 (fun _ => rfl))
    clear ht4 c0 c1 c2 c3' c4' c5' c6 c7 e0 e1 e2 e3 e4 q0 q1 q2 q3 q4
    have HG5 := Lib.hid (HG4.out.alloc (.cells #[.string ⟨(textAt E.l k).toArray⟩] 9))
    have hsz4 : w.heap.size + 2 ≤ w4.heap.size := (Array.getElem?_eq_some_iff.1 HG4.out.box).1
    obtain ⟨hi, hi0, hi1, hi2⟩ := HI.out
    go_wp2_with (at_builtin; go_must (refine wpList_append_lies _ rfl (.tmp 91) (.tmp 94) 42 rfl (w.heap.size + 2) 9 i1 _ 1 16 Tryd.underlying42 hi hi0 hi1 hi2 rfl (by decide) bv s.bnd.length (textRow s.bnd) rfl ?own ⟨w4.heap.size, 0, none⟩ 1 1 [.string ⟨(textAt E.l k).toArray⟩] rfl rfl ?news ?one (by decide) ?c3 ?c4 ?c5 (w4.heap.size + 1) ?c6 ?_))
    case own => exact HG5.out.ownb
    case news => exact World.news_of_block (cs := #[.string ⟨(textAt E.l k).toArray⟩]) (t := 9) (fr := (0, 0)) (new_heap w4 _ _)
    case one => intro u hu; simp at hu; subst hu; rfl
    case c3 => unfold maxLen; omega
    case c4 => omega
    case c5 => simp; omega
    case c6 => simp
    intro g cap w5 hown5 hgrow5 hat5 hlt5
    have HG6 := Lib.hid (GSt.bound (bv' := .slice (some ⟨g, 0, none⟩) (s.bnd.length + 1) cap) (bnd' := s.bnd ++ [textAt E.l k]) HG5.out hgrow5 (fun g' hg' => by
      simp only [Value.ownBlock, Option.some.injEq] at hg'
      subst hg'
      rcases hat5 with h | h
      · exact .inl h
      · right; simp; omega) (fun x hx he => by have h1 := (HG.out.ownb.lt x he.symm).1; have h2 := HNV.out x hx; omega) (by rw [textRow_snoc]; simpa using hown5))
    clear hown5 hgrow5 hat5 hlt5 hi hi0 hi1 hi2
    go_wp2
    refine ⟨?_, by simp [Wmu, intOf]; omega⟩
    unfold WI
    refine ⟨_, p + 1, _, _, _, _, _, _, _, _, _, _, _, _, _, _, _, _, _, _, _, _, _, _, _, _, _, _, _, _, _, _, _, _, _, _, _, _, _, _, _, _, _, _, _, _, _, _, _, _, _, _, _, _, _, _, _, _, _, _, _, _, _, _, _, _, _, _, _, _, _, _, _, _, _, _, _, _, _, _, _, _, _, _, _, _, _, _, _, _, _, _, _, _, _, _, _, _, _, _, _, ?_, rfl⟩
    exact ⟨_, { s with bnd := s.bnd ++ [textAt E.l k] }, rows, v, HG6.out, by have := HB.out.1; omega, by have := HB.out.2.1; simp only [List.length_append, List.length_singleton]; omega, by omega, HB.out.2.2, HRok.out hk3⟩
  · go_wp2_with fail
    refine (next_miss 3 (by decide) hk3 HG.out.tn.1).mono ?_
    rintro e w4 ⟨rfl, ht4⟩
    have HG4 := Lib.hid (HG.out.move ht4 (fun h => by cases h))
    clear ht4 c0 c1 c2 c3' c4' c5' c6 c7 e0 e1 e2 e3 e4 q0 q1 q2 q3 q4
    have HG5 := Lib.hid (HG4.out.alloc (.cells #[.string ⟨(([] : List UInt8)).toArray⟩] 9))
    have hsz4 : w.heap.size + 2 ≤ w4.heap.size := (Array.getElem?_eq_some_iff.1 HG4.out.box).1
    obtain ⟨hi, hi0, hi1, hi2⟩ := HI.out
    go_wp2_with (at_builtin; go_must (refine wpList_append_lies _ rfl (.tmp 91) (.tmp 94) 42 rfl (w.heap.size + 2) 9 i1 _ 1 16 Tryd.underlying42 hi hi0 hi1 hi2 rfl (by decide) bv s.bnd.length (textRow s.bnd) rfl ?own ⟨w4.heap.size, 0, none⟩ 1 1 [.string ⟨(([] : List UInt8)).toArray⟩] rfl rfl ?news ?one (by decide) ?c3 ?c4 ?c5 (w4.heap.size + 1) ?c6 ?_))
    case own => exact HG5.out.ownb
    case news => exact World.news_of_block (cs := #[.string ⟨(([] : List UInt8)).toArray⟩]) (t := 9) (fr := (0, 0)) (new_heap w4 _ _)
    case one => intro u hu; simp at hu; subst hu; rfl
    case c3 => unfold maxLen; omega
    case c4 => omega
    case c5 => simp; omega
    case c6 => simp
    intro g cap w5 hown5 hgrow5 hat5 hlt5
    have HG6 := Lib.hid (GSt.bound (bv' := .slice (some ⟨g, 0, none⟩) (s.bnd.length + 1) cap) (bnd' := s.bnd ++ [([] : List UInt8)]) HG5.out hgrow5 (fun g' hg' => by
      simp only [Value.ownBlock, Option.some.injEq] at hg'
      subst hg'
      rcases hat5 with h | h
      · exact .inl h
      · right; simp; omega) (fun x hx he => by have h1 := (HG.out.ownb.lt x he.symm).1; have h2 := HNV.out x hx; omega) (by rw [textRow_snoc]; simpa using hown5))
    clear hown5 hgrow5 hat5 hlt5 hi hi0 hi1 hi2
    go_wp2
    refine ⟨?_, by simp [Wmu, intOf]; omega⟩
    unfold WI
    refine ⟨_, p + 1, _, _, _, _, _, _, _, _, _, _, _, _, _, _, _, _, _, _, _, _, _, _, _, _, _, _, _, _, _, _, _, _, _, _, _, _, _, _, _, _, _, _, _, _, _, _, _, _, _, _, _, _, _, _, _, _, _, _, _, _, _, _, _, _, _, _, _, _, _, _, _, _, _, _, _, _, _, _, _, _, _, _, _, _, _, _, _, _, _, _, _, _, _, _, _, _, _, _, _, ?_, rfl⟩
    exact ⟨_, { s with bnd := s.bnd ++ [([] : List UInt8)] }, rows, v, HG6.out, by have := HB.out.1; omega, by have := HB.out.2.1; simp only [List.length_append, List.length_singleton]; omega, by omega, HB.out.2.2, HRbad.out hk3 _⟩

end Go.Proofs.YtfklmcmoackepaaDoor
