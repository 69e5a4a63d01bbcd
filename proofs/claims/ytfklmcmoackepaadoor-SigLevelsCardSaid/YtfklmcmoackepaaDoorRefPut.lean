/- Walk of transhipref01.Put. -/
import Derived.Test.YtfklmcmoackepaaDoorNumW
import Derived.Test.YtfklmcmoackepaaDoorKit
import Derived.Lib.ItoaLen
namespace Go.Proofs.YtfklmcmoackepaaDoor
open Go.RowKit

theorem Tryd.infoU8 : (Tryd.prog.info? 5).map (fun i => (i.zero, i.size, i.bytes)) = some (some (.int .u8 0), 1, 1) := by kernel_rfl

/-- what is still to be put ahead of bs -/
def Rest (m U : Nat) (bs : List UInt8) : Prop := (if m = 0 then [] else Lib.decDigits m) ++ bs = Lib.decDigits U
theorem Rest.start {U : Nat} (h : 0 < U) : Rest U U [] := by unfold Rest; rw [if_neg (by omega), List.append_nil]
theorem Rest.next {m U : Nat} {bs : List UInt8} (h : Rest m U bs) (hm : 0 < m) : Rest (m / 10) U (UInt8.ofNat (48 + m % 10) :: bs) := by
  unfold Rest at *
  rw [if_neg (by omega)] at h
  rw [← h]
  by_cases h10 : m < 10
  · rw [if_pos (by omega), Lib.decDigits_one h10, Nat.mod_eq_of_lt h10]; rfl
  · rw [if_neg (by omega)]
    conv => rhs; rw [Lib.decDigits, dif_neg h10]
    simp
theorem Rest.done {U : Nat} {bs : List UInt8} (h : Rest 0 U bs) : bs = Lib.decDigits U := by simpa [Rest] using h
theorem Rest.length {m U : Nat} {bs : List UInt8} (h : Rest m U bs) (hU : U < 18446744073709551616) : bs.length ≤ 20 := by
  have h2 := congrArg List.length h
  rw [List.length_append, Lib.decDigits_length] at h2
  have := Lib.nDigits_le20 U hU
  omega
theorem byteCell_digit (m : Nat) : byteCell (UInt8.ofNat (48 + m % 10)) = .int .u8 (48 + (m : Int) % 10) := by
  unfold byteCell
  congr 1
  simp [UInt8.toNat_ofNat']
  omega


theorem wrap_neg (n : Nat) (h : 0 < n) (h1 : n ≤ 9223372036854775808) : IntKind.u64.wrap (-IntKind.u64.wrap (-(n : Int))) = n := by
  simp only [IntKind.wrap, IntKind.bits, IntKind.signed]
  simp
  omega


end Go.Proofs.YtfklmcmoackepaaDoor
