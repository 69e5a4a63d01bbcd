/- Texts of derivations on lists. -/
import Derived.Test.YtfpiogaakblpeaaDoorKids
import Derived.Test.YtfpiogaakblpeaaDoorNumW
namespace Go.Proofs.YtfpiogaakblpeaaDoor
open Go.RowKit

def ruleWords : List (List UInt8) := [[115, 111, 114, 116], [118, 97, 114], [112, 105], [108, 97, 109], [97, 112, 112], [115, 105, 103], [112, 97, 105, 114], [102, 115, 116], [115, 110, 100], [101, 113], [114, 101, 102, 108], [99, 111, 110, 118], [115, 97, 109, 101], [115, 121, 109], [116, 114, 97, 110, 115], [99, 111, 110, 118, 115], [114, 101, 102, 108, 101, 99, 116], [98, 101, 116, 97], [102, 105, 114, 115, 116], [115, 101, 99, 111, 110, 100], [101, 116, 97], [115, 117, 114, 106], [114, 101, 112, 108], [105, 114, 114], [120, 112, 105], [120, 115, 105, 103], [120, 108, 97, 109], [120, 112, 97, 105, 114]]
/-- deriv.Word -/
def wordI (r : Int) : List UInt8 := if r < 1 ∨ 28 < r then [] else ruleWords.getD (r - 1).toNat []
/-- deriv.Rule -/
def ruleI (s : List UInt8) : Nat := if ruleWords.idxOf s < 28 then ruleWords.idxOf s + 1 else 0

mutual
def rightD : DT → Bool
  | .node r i ks => kidsI r == (ks.length : Int) && decide (0 ≤ i) && decide (i ≤ 1000000) && (i == 0 || r == 1 || r == 2) && rightDs ks
def rightDs : List DT → Bool
  | [] => true
  | k :: ks => rightD k && rightDs ks
end

mutual
def showD : DT → List UInt8
  | .node r i ks => 40 :: (wordI r ++ (if r = 1 ∨ r = 2 then 32 :: Lib.itoa i else []) ++ showDs ks ++ [41])
/-- each with a space ahead -/
def showDs : List DT → List UInt8
  | [] => []
  | k :: ks => 32 :: (showD k ++ showDs ks)
end

/-- "(file (" -/
def fileHead : List UInt8 := [40, 102, 105, 108, 101, 32, 40]
/-- with a space between -/
def showCtx : List DT → List UInt8
  | [] => []
  | k :: ks => showD k ++ showDs ks
def showF (ctx : List DT) (d : DT) : List UInt8 := fileHead ++ showCtx ctx ++ [41, 32] ++ showD d ++ [41, 10]

theorem showDs_append : ∀ (a b : List DT), showDs (a ++ b) = showDs a ++ showDs b
  | [], b => by simp [showDs]
  | k :: a, b => by simp [showDs, showDs_append a b]
theorem rightDs_iff : ∀ (l : List DT), rightDs l = l.all rightD
  | [] => rfl
  | k :: l => by simp [rightDs, rightDs_iff l]

theorem wordI_le (r : Int) : (wordI r).length ≤ 7 := by
  unfold wordI
  split
  · simp
  · generalize (r - 1).toNat = n
    by_cases h : n < 28
    · have : ∀ n, n < 28 → (ruleWords.getD n []).length ≤ 7 := by decide
      exact this n h
    · rw [List.getD_eq_getElem?_getD, List.getElem?_eq_none (by simp [ruleWords]; omega)]
      simp
end Go.Proofs.YtfpiogaakblpeaaDoor
