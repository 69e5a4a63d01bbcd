/- Walk of lex.blank. -/
import Derived.Test.YtfklmcmoackepaaDoorLexA
namespace Go.Proofs.YtfklmcmoackepaaDoor
open Go.RowKit

/-- what is left behind blanks and remarks; true: inside a remark -/
def skip : Bool → List UInt8 → List UInt8
  | _, [] => []
  | false, c :: r => if c.toNat = 32 ∨ c.toNat = 9 ∨ c.toNat = 10 then skip false r else if c.toNat = 59 then skip true r else c :: r
  | true, c :: r => if c.toNat = 10 then skip false r else skip true r

theorem drop_cons (s : ByteArray) (k : Nat) (h : k < s.size) : s.data.toList.drop k = s[k] :: s.data.toList.drop (k + 1) := by
  have : k < s.data.toList.length := by simpa using h
  rw [List.drop_eq_getElem_cons this]; rfl

theorem drop_size (s : ByteArray) : s.data.toList.drop s.size = [] := List.drop_of_length_le (by simp)

def blankAt (l : List UInt8) (k : Nat) : Nat := l.length - (skip false (l.drop k)).length

set_option maxHeartbeats 400000 in
theorem blank_any (s : ByteArray) (at0 : Nat) (w : World) (hs : s.size ≤ maxLen) (h0 : at0 ≤ s.size) :
    Calls Tryd.prog 29 #[.string s, .int .i64 at0] w fun e w' => e = .returned (.int .i64 (blankAt s.data.toList at0)) ∧ w = w' := by
  unfold maxLen at hs
  go_enter Tryd.func29, Tryd.ntmps29
  go_wp2
  go_loop [1] (fun i => ∃ k : Nat, k ≤ s.size ∧ i = .int .i64 k ∧ skip false (s.data.toList.drop k) = skip false (s.data.toList.drop at0)) (fun i => s.size - (intOf i).toNat)
  case atStart => exact ⟨at0, h0, rfl, rfl⟩
  case round =>
    obtain ⟨k, hk, rfl, hrest⟩ := hrel
    have HR := Lib.hid hrest
    clear hrest
    by_cases hlt : k < s.size
    · have hd := drop_cons s k hlt
      have HD := Lib.hid hd
      clear hd
      go_wp2
      iterate 3
        · go_round
          case rel =>
            refine ⟨k + 1, by omega, by go_num, ?_⟩
            have h1 : s[k].toNat = 32 ∨ s[k].toNat = 9 ∨ s[k].toNat = 10 := by simp at *; omega
            rw [← HR.out, HD.out]
            simp only [skip, h1, if_true]
          case measure => simp [intOf]; omega
      · have h59 : s[k].toNat = 59 := by simp at *; omega
        go_loop [1] (fun i => ∃ j : Nat, k ≤ j ∧ j ≤ s.size ∧ i = .int .i64 j ∧ skip true (s.data.toList.drop j) = skip false (s.data.toList.drop at0)) (fun i => s.size - (intOf i).toNat)
        case atStart => exact ⟨k, by omega, by omega, rfl, by rw [← HR.out, HD.out]; simp [skip, h59]⟩
        case round =>
          obtain ⟨j, hkj, hj, rfl, hrest2⟩ := hrel
          have HS := Lib.hid hrest2
          clear hrest2
          by_cases hjt : j < s.size
          · have hd2 := drop_cons s j hjt
            have HD2 := Lib.hid hd2
            clear hd2
            by_cases h10 : s[j].toNat = 10
            · have hne : j ≠ k := by intro e; subst e; omega
              have h10' : ((s[j].toNat : Int) != 10) = false := by simp [h10]
              have H10 := Lib.hid h10
              clear h10
              go_wp2
              go_round
              case rel =>
                refine ⟨j, by omega, rfl, ?_⟩
                rw [← HS.out, HD2.out]; simp [skip, H10.out]
              case measure => simp [intOf]; omega
            · have h10' : ((s[j].toNat : Int) != 10) = true := by simp; omega
              go_wp2
              go_round
              case rel =>
                refine ⟨j + 1, by omega, by omega, by go_num, ?_⟩
                rw [← HS.out, HD2.out]; simp [skip, h10]
              case measure => simp [intOf]; omega
          · go_wp2
            go_round
            case rel =>
              refine ⟨j, by omega, rfl, ?_⟩
              have : j = s.size := by omega
              subst this
              rw [← HS.out, drop_size]; rfl
            case measure => simp [intOf]; omega
      · go_ret
        refine ⟨retInt ?_, rfl⟩
        have h1 : ¬ (s[k].toNat = 32 ∨ s[k].toNat = 9 ∨ s[k].toNat = 10) := by simp at *; omega
        have h2 : ¬ (s[k].toNat = 59) := by simp at *; omega
        have h3 : skip false (s.data.toList.drop k) = s.data.toList.drop k := by
          rw [HD.out]; simp only [skip, h1, h2, if_false]
        unfold blankAt
        rw [← HR.out, h3]
        simp
        omega
    · go_wp2
      go_ret
      refine ⟨retInt ?_, rfl⟩
      have : k = s.size := by omega
      subst this
      unfold blankAt
      rw [← HR.out, drop_size]
      simp [skip]
end Go.Proofs.YtfklmcmoackepaaDoor
