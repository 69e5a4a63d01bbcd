/- Walk of transhiplaw13.wakes. -/
import Derived.Test.YtfpiogaakblpeaaDoorParR
namespace Go.Proofs.YtfpiogaakblpeaaDoor
open Go.RowKit

def text1 : List UInt8 := [40, 102, 105, 108, 101, 32, 40, 40, 115, 111, 114, 116, 32, 48, 41, 41, 32, 40, 118, 97, 114, 32, 48, 41, 41]
def text2 : List UInt8 := [40, 102, 105, 108, 101, 32, 40, 41, 32, 40, 115, 111, 114, 116, 41, 41]
def text3 : List UInt8 := [40, 102, 105, 108, 101, 32, 40, 41, 32, 40, 114, 101, 102, 108, 32, 40, 115, 111, 114, 116, 32, 48, 41, 41, 41]

theorem whole1 : ∃ k n, wholeM (fun m => withinB m 4611686018427387904) (fun m => withinB m 4611686018427387904) text1 = .ok ([.node 1 0 []], .node 2 0 []) k n := ⟨13, 2, by kernel_rfl⟩
theorem whole2 : ∃ k, wholeM (fun m => withinB m 4621256167635550208) (fun m => withinB m 4621256167635550208) text2 = .bad k .parse ∧ placeM text2 k = 14 := ⟨6, by kernel_rfl, by kernel_rfl⟩
theorem whole3 : ∃ k, wholeM (fun m => withinB m 4607182418800017408) (fun m => withinB m 4621256167635550208) text3 = .bad k .deep := ⟨6, by kernel_rfl⟩

theorem parse_ok (s : ByteArray) (df wf : Nat) (w : World) (ht : Tab w) (hs : s.size ≤ 1099511627776) (cs : List DT) (d : DT) (h : ∃ k n, wholeM (fun m => withinB m df) (fun m => withinB m wf) s.data.toList = .ok (cs, d) k n) :
    Calls Tryd.prog 21 #[.string s, .float .f64 df, .float .f64 wf] w (FileOk w cs d) := by
  obtain ⟨k, n, h⟩ := h
  refine (parseFile_any s df wf w ht hs).mono ?_
  intro e w' h2
  unfold FileSays at h2
  rw [h] at h2
  exact h2
theorem parse_bad (s : ByteArray) (df wf : Nat) (w : World) (ht : Tab w) (hs : s.size ≤ 1099511627776) (k : Nat) (y : Why) (h : wholeM (fun m => withinB m df) (fun m => withinB m wf) s.data.toList = .bad k y) :
    Calls Tryd.prog 21 #[.string s, .float .f64 df, .float .f64 wf] w (FileBad w (errOf y) (placeM s.data.toList k) (wordOf y)) := by
  refine (parseFile_any s df wf w ht hs).mono ?_
  intro e w' h2
  unfold FileSays at h2
  rw [h] at h2
  exact h2

set_option maxRecDepth 100000 in
set_option maxHeartbeats 2000000 in
theorem wakes13 (w : World) (ht : Tab w) :
    Calls Tryd.prog 24 #[] w fun e w' => e = .returned (.bool true) ∧ Below w.heap.size w w' := by
  have HT := Lib.hid ht
  clear ht
  go_enter Tryd.func24, Tryd.ntmps24
  go_wp2_with fail
  refine (parse_ok ⟨text1.toArray⟩ _ _ _ HT.out (by decide) [.node 1 0 []] (.node 2 0 []) whole1).mono ?_
  rintro e w1 ⟨cv, v, rfl, hk1, hk2, _, _, hb1⟩
  obtain ⟨_, a1, c1, rfl⟩ := hk1.form
  obtain ⟨_, a2, c2, rfl⟩ := RepK.form hk2
  have HB1 := Lib.hid hb1
  have hs1 := hb1.size
  have hb2 : Below w.heap.size w (w1.alloc (.cells #[.slice a1 1 c1, .int .i64 2, .int .i64 0, .slice a2 0 c2] 26)) := hb1.trans ((below_alloc _ _).mono hs1)
  have hx := new_heap w1 #[.slice a1 1 c1, .int .i64 2, .int .i64 0, .slice a2 0 c2] 26
  have hz : (w1.alloc (.cells #[.slice a1 1 c1, .int .i64 2, .int .i64 0, .slice a2 0 c2] 26)).heap.size = w1.heap.size + 1 := by simp
  have HB2 := Lib.hid hb2
  have HX := Lib.hid hx
  have HZ := Lib.hid hz
  clear hb1 hb2 hk1 hk2 hx hz hs1
  simp only [DT.kids, DT.rule, DT.idx, fileV, List.length_cons, List.length_nil, Nat.zero_add] at *
  go_wp2_with fail
  obtain ⟨k2, hw2, hp2⟩ := whole2
  refine (parse_bad ⟨text2.toArray⟩ _ _ _ (HT.out.below HB2.out) (by decide) k2 .parse hw2).mono ?_
  rintro e w2 ⟨he, hb⟩
  obtain rfl : e = .returned (.tuple #[.agg #[.slice none 0 0, .int .i64 0, .int .i64 0, .slice none 0 0], .int .i64 2, .int .i64 14, .string ⟨#[]⟩]) := by
    rw [he, show placeM (ByteArray.mk text2.toArray).data.toList k2 = 14 from hp2]; rfl
  have hb3 := hb.trans ((below_alloc w2 (.cells #[.slice none 0 0, .int .i64 0, .int .i64 0, .slice none 0 0] 26)).mono hb.size)
  have HB3 := Lib.hid hb3
  clear he hb hb3 hw2 hp2
  go_wp2_with fail
  obtain ⟨k3, hw3⟩ := whole3
  refine (parse_bad ⟨text3.toArray⟩ _ _ _ (HT.out.below (HB2.out.trans (HB3.out.mono HB2.out.size))) (by decide) k3 .deep hw3).mono ?_
  rintro e w3 ⟨he, hb⟩
  obtain ⟨pl, rfl⟩ : ∃ pl : Int, e = .returned (.tuple #[.agg #[.slice none 0 0, .int .i64 0, .int .i64 0, .slice none 0 0], .int .i64 4, .int .i64 pl, .string ⟨#[100, 101, 101, 112]⟩]) := ⟨_, by rw [he]; rfl⟩
  have hs3 := HB3.out.size
  have hb4 := HB3.out.trans ((hb.trans ((below_alloc w3 (.cells #[.slice none 0 0, .int .i64 0, .int .i64 0, .slice none 0 0] 26)).mono hb.size)).mono hs3)
  have hx : (w3.alloc (.cells #[.slice none 0 0, .int .i64 0, .int .i64 0, .slice none 0 0] 26)).heap[w1.heap.size]? = _ := (hb4.block _ (by rw [HZ.out]; omega)).trans HX.out
  have c0 : (w3.alloc (.cells #[.slice none 0 0, .int .i64 0, .int .i64 0, .slice none 0 0] 26)).cell? ⟨w1.heap.size, 0, none⟩ = some (.slice a1 1 c1) := by simp [World.cell?, hx]
  have c1' : (w3.alloc (.cells #[.slice none 0 0, .int .i64 0, .int .i64 0, .slice none 0 0] 26)).cell? ⟨w1.heap.size, 1, none⟩ = some (.int .i64 2) := by simp [World.cell?, hx]
  have HB4 := Lib.hid (HB2.out.trans (hb4.mono HB2.out.size))
  clear he hb hb4 hw3 hx hs3
  go_wp2
  go_ret
  exact ⟨rfl, HB4.out⟩
end Go.Proofs.YtfpiogaakblpeaaDoor
