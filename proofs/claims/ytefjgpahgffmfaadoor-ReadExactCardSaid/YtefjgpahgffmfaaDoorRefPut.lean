/- Walk of transhipref01.Put. -/
import Derived.Test.YtefjgpahgffmfaaDoorNumW
import Derived.Test.YtefjgpahgffmfaaDoorKit
import Derived.Lib.ItoaLen
namespace Go.Proofs.YtefjgpahgffmfaaDoor
open Go.RowKit

theorem Tryd.infoU8 : (Tryd.prog.info? 5).map (fun i => (i.zero, i.size, i.bytes)) = some (some (.int .u8 0), 1, 1) := by kernel_rfl

/-- what is still to be put ahead of bs -/
def Rest (m U : Nat) (bs : List UInt8) : Prop := (if m = 0 then [] else Lib.decDigits m) ++ bs = Lib.decDigits U
theorem Rest.start {U : Nat} (h : 0 < U) : Rest U U [] := by unfold Rest; rw [if_neg (by omega), List.append_nil]
theorem Rest.next {m U : Nat} {bs : List UInt8} (h : Rest m U bs) (hm : 0 < m) : Rest (m / 10) U (UInt8.ofNat (48 + m % 10) :: bs) := by
  unfold Rest at *
  rw [if_neg (by omega)] at h
  rw [← h]
  by_cases h10 : m < 10
  · rw [if_pos (by omega), Lib.decDigits_one h10, Nat.mod_eq_of_lt h10]; rfl
  · rw [if_neg (by omega)]
    conv => rhs; rw [Lib.decDigits, dif_neg h10]
    simp
theorem Rest.done {U : Nat} {bs : List UInt8} (h : Rest 0 U bs) : bs = Lib.decDigits U := by simpa [Rest] using h
theorem Rest.length {m U : Nat} {bs : List UInt8} (h : Rest m U bs) (hU : U < 18446744073709551616) : bs.length ≤ 20 := by
  have h2 := congrArg List.length h
  rw [List.length_append, Lib.decDigits_length] at h2
  have := Lib.nDigits_le20 U hU
  omega
theorem byteCell_digit (m : Nat) : byteCell (UInt8.ofNat (48 + m % 10)) = .int .u8 (48 + (m : Int) % 10) := by
  unfold byteCell
  congr 1
  simp [UInt8.toNat_ofNat']
  omega

set_option maxHeartbeats 1000000 in
set_option maxRecDepth 100000 in
theorem refput_pos (n : Nat) (w : World) (h0 : 0 < n) (h1 : n ≤ 9223372036854775807) :
    Calls Tryd.prog 43 #[.int .i64 n] w fun e w' => e = .returned (.string ⟨(Lib.itoa n).toArray⟩) ∧ Below w.heap.size w w' := by
  have hz : ((n : Int) == 0) = false := by simp; omega
  have hn0 : ¬ (n : Int) < 0 := by omega
  go_enter Tryd.func43, Tryd.ntmps43
  go_wp2_with fail
  go_loopw [3, 4] (fun u v wr => ∃ (m : Nat) (bs : List UInt8), u = .int .u64 m ∧ m ≤ n ∧ wr.ownsRow w.heap.size 5 1 v bs.length (bs.map byteCell) ∧ Rest m n bs ∧ Below w.heap.size w wr) (fun u _ _ => (intOf u).toNat)
  case atStart => exact ⟨n, [], rfl, Nat.le_refl _, World.ownsRow_nil _ _ _ _, Rest.start h0, Below.refl _ _⟩
  case round =>
    obtain ⟨m, bs, rfl, hm, hown, hrest, hbel⟩ := hrel
    by_cases hlt : 0 < m
    · obtain ⟨i0, hi, hi0, hi1, hi2⟩ := info_parts Tryd.infoU8
      have hlen := hrest.length (by omega)
      go_wp2_with (at_builtin; go_must (refine wpList_append_has rfl (.tmp 19) (.tmp 20) 51 rfl w.heap.size 5 i0 (.int .u8 0) 1 1 Tryd.underlying51 hi hi0 hi1 hi2 rfl (by decide) _ 1 _ rfl (World.ownsRow_lit wr _ 1 hbel.size (by decide) rfl) _ bs.length (bs.map byteCell) rfl ?has ?one ?c3 ?c4 ?c5 ?_))
      case has => exact Has.of_owns (hown.alloc _)
      case one => intro u hu; obtain ⟨_, _, rfl⟩ := List.mem_map.1 hu; rfl
      case c3 => unfold maxLen; omega
      case c4 => omega
      case c5 => have := hbel.size; simp; omega
      intro v' w1 hown1 hgrow1
      have hown2 : w1.ownsRow w.heap.size 5 1 v' ((UInt8.ofNat (48 + m % 10) :: bs).length) ((UInt8.ofNat (48 + m % 10) :: bs).map byteCell) := by
        rw [List.map_cons, byteCell_digit, List.length_cons, Nat.add_comm]; exact hown1
      have hb2 : Below w.heap.size w w1 := (hbel.alloc hbel.size _).grown hgrow1 (by have := hbel.size; simp; omega) (fun k hk => by simp [Value.ownBlock] at hk; have := hbel.size; omega)
      have hrest2 := hrest.next hlt
      clear hown1 hgrow1 hown hrest
      go_wp2
      go_roundw
      case rel => exact ⟨m / 10, UInt8.ofNat (48 + m % 10) :: bs, by go_num, by omega, hown2, hrest2, hb2⟩
      case measure => simp [intOf]; omega
    · have hm0 : m = 0 := by omega
      subst hm0
      have hcv := run_convert_has (P := Tryd.prog) 51 9 5 u4 _ _ Tryd.underlying51 Tryd.underlying5 Tryd.underlying9 (Has.of_owns hown)
      have hd := hrest.done
      have HD := Lib.hid hd
      clear hd
      go_wp2
      go_ret
      exact ⟨by rw [Lib.itoa_nonneg, HD.out]; rfl, hbel⟩

theorem wrap_neg (n : Nat) (h : 0 < n) (h1 : n ≤ 9223372036854775808) : IntKind.u64.wrap (-IntKind.u64.wrap (-(n : Int))) = n := by
  simp only [IntKind.wrap, IntKind.bits, IntKind.signed]
  simp
  omega
set_option maxHeartbeats 1000000 in
set_option maxRecDepth 100000 in
theorem refput_neg (n : Nat) (w : World) (h0 : 0 < n) (h1 : n ≤ 9223372036854775808) :
    Calls Tryd.prog 43 #[.int .i64 (-(n : Int))] w fun e w' => e = .returned (.string ⟨(Lib.itoa (-(n : Int))).toArray⟩) ∧ Below w.heap.size w w' := by
  have hz : ((-(n : Int)) == 0) = false := by simp; omega
  have hn0 : -(n : Int) < 0 := by omega
  have hw := wrap_neg n h0 h1
  have HW := Lib.hid hw
  clear hw
  go_enter Tryd.func43, Tryd.ntmps43
  go_wp2_with fail
  go_loopw [3, 4] (fun u v wr => ∃ (m : Nat) (bs : List UInt8), u = .int .u64 m ∧ m ≤ n ∧ wr.ownsRow w.heap.size 5 1 v bs.length (bs.map byteCell) ∧ Rest m n bs ∧ Below w.heap.size w wr) (fun u _ _ => (intOf u).toNat)
  case atStart => exact ⟨n, [], by rw [HW.out], Nat.le_refl _, World.ownsRow_nil _ _ _ _, Rest.start h0, Below.refl _ _⟩
  case round =>
    obtain ⟨m, bs, rfl, hm, hown, hrest, hbel⟩ := hrel
    by_cases hlt : 0 < m
    · obtain ⟨i0, hi, hi0, hi1, hi2⟩ := info_parts Tryd.infoU8
      have hlen := hrest.length (by omega)
      go_wp2_with (at_builtin; go_must (refine wpList_append_has rfl (.tmp 19) (.tmp 20) 51 rfl w.heap.size 5 i0 (.int .u8 0) 1 1 Tryd.underlying51 hi hi0 hi1 hi2 rfl (by decide) _ 1 _ rfl (World.ownsRow_lit wr _ 1 hbel.size (by decide) rfl) _ bs.length (bs.map byteCell) rfl ?has ?one ?c3 ?c4 ?c5 ?_))
      case has => exact Has.of_owns (hown.alloc _)
      case one => intro u hu; obtain ⟨_, _, rfl⟩ := List.mem_map.1 hu; rfl
      case c3 => unfold maxLen; omega
      case c4 => omega
      case c5 => have := hbel.size; simp; omega
      intro v' w1 hown1 hgrow1
      have hown2 : w1.ownsRow w.heap.size 5 1 v' ((UInt8.ofNat (48 + m % 10) :: bs).length) ((UInt8.ofNat (48 + m % 10) :: bs).map byteCell) := by
        rw [List.map_cons, byteCell_digit, List.length_cons, Nat.add_comm]; exact hown1
      have hb2 : Below w.heap.size w w1 := (hbel.alloc hbel.size _).grown hgrow1 (by have := hbel.size; simp; omega) (fun k hk => by simp [Value.ownBlock] at hk; have := hbel.size; omega)
      have hrest2 := hrest.next hlt
      clear hown1 hgrow1 hown hrest
      go_wp2
      go_roundw
      case rel => exact ⟨m / 10, UInt8.ofNat (48 + m % 10) :: bs, by go_num, by omega, hown2, hrest2, hb2⟩
      case measure => simp [intOf]; omega
    · have hm0 : m = 0 := by omega
      subst hm0
      have hcv := run_convert_has (P := Tryd.prog) 51 9 5 u4 _ _ Tryd.underlying51 Tryd.underlying5 Tryd.underlying9 (Has.of_owns hown)
      have hd := hrest.done
      have HD := Lib.hid hd
      clear hd
      have hbl := hrest.length (by omega)
      go_wp2
      go_ret
      exact ⟨by rw [Lib.itoa_neg n h0, ← HD.out]; exact congrArg (fun s => Ending.returned (Value.string s)) (str_append [45] bs), hbel⟩


set_option maxHeartbeats 400000 in
theorem refput_any (n : Int) (w : World) (h0 : -9223372036854775808 ≤ n) (h1 : n ≤ 9223372036854775807) :
    Calls Tryd.prog 43 #[.int .i64 n] w fun e w' => e = .returned (.string ⟨(Lib.itoa n).toArray⟩) ∧ Below w.heap.size w w' := by
  by_cases hp : 0 < n
  · obtain ⟨m, rfl⟩ := Int.eq_ofNat_of_zero_le (Int.le_of_lt hp)
    exact refput_pos m w (by omega) (by omega)
  · by_cases hz : n = 0
    · subst hz
      go_enter Tryd.func43, Tryd.ntmps43
      go_wp2
      go_ret
      exact ⟨by rw [show (0 : Int) = ((0 : Nat) : Int) from rfl, Lib.itoa_nonneg, Lib.decDigits_one (by omega)]; rfl, Below.refl _ _⟩
    · obtain ⟨m, rfl⟩ : ∃ m : Nat, n = -(m : Int) := ⟨n.natAbs, by omega⟩
      exact refput_neg m w (by omega) (by omega)
end Go.Proofs.YtefjgpahgffmfaaDoor
