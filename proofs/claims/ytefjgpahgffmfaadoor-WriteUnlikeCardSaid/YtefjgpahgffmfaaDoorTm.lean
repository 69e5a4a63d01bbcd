/- Right terms, free variables, texts of terms: on trees. -/
import Derived.Test.YtefjgpahgffmfaaDoorTs
import Derived.Test.YtefjgpahgffmfaaDoorNumW
namespace Go.Proofs.YtefjgpahgffmfaaDoor
open Go.RowKit

/-- term.takes -/
def takesK (n : Int) : Int :=
  if n = 3 ∨ n = 5 ∨ n = 6 ∨ n = 8 ∨ n = 10 ∨ n = 11 then 4
  else if n = 1 ∨ n = 2 ∨ n = 7 ∨ n = 9 then 5
  else if n = 4 ∨ n = 12 ∨ n = 13 ∨ n = 14 ∨ n = 21 then 6
  else if n = 15 ∨ n = 18 ∨ n = 19 ∨ n = 20 then 9
  else if n = 16 ∨ n = 17 then 12
  else -1
/-- term.Kids -/
def kidsK (k n : Int) : Int :=
  if k = 1 ∨ k = 2 then 0
  else if k = 18 ∨ k = 19 then 1
  else if k = 3 ∨ k = 6 ∨ k = 13 ∨ k = 14 ∨ k = 15 ∨ k = 16 ∨ k = 21 ∨ k = 11 then 2
  else if k = 4 ∨ k = 8 ∨ k = 9 ∨ k = 10 ∨ k = 20 then 3
  else if k = 5 ∨ k = 7 ∨ k = 12 ∨ k = 17 then 4
  else if k = 22 then 6
  else if k = 23 then takesK n
  else -1
/-- bare.Binds -/
def bindsK (k x : Int) : Int :=
  if (k = 3 ∨ k = 5 ∨ k = 6 ∨ k = 7 ∨ k = 8 ∨ k = 9 ∨ k = 13 ∨ k = 14 ∨ k = 16 ∨ k = 17) ∧ x = 1 then 1
  else if k = 4 ∧ (x = 1 ∨ x = 2) then 1
  else if k = 22 ∧ x = 2 then 2
  else 0
def levelB (n : Int) : Bool := decide (0 ≤ n) && decide (n ≤ 1000)
/-- term.numbers -/
def numbersB (k i j n : Int) : Bool :=
  if k = 1 ∨ k = 10 ∨ k = 11 ∨ k = 12 then levelB i && j == 0 && n == 0
  else if k = 2 then decide (0 ≤ i) && decide (i ≤ 2147483647) && j == 0 && n == 0
  else if k = 3 ∨ k = 4 ∨ k = 5 ∨ k = 6 ∨ k = 7 ∨ k = 8 ∨ k = 9 then levelB i && levelB j && n == 0
  else if k = 23 then levelB i && levelB j
  else i == 0 && j == 0 && n == 0
/-- term.sort -/
def sortK (k : Int) : Int := if k = 1 ∨ k = 2 then 0 else if k ≤ 12 then 1 else 2
/-- of which sort a kid is -/
def ofK (k : Int) (x : Nat) : Int := if k = 12 ∧ x = 2 then 2 else sortK k

mutual
/-- term.right -/
def rightT : TT → Int → Bool
  | .node k i j n ks, want => !(want != 0 && sortK k != 0 && sortK k != want) && (ks.length : Int) == kidsK k n && numbersB k i j n && rightTs k 0 ks
def rightTs (k : Int) (x : Nat) : List TT → Bool
  | [] => true
  | t :: ts => rightT t (ofK k x) && rightTs k (x + 1) ts
end
mutual
/-- term.free -/
def freeT : TT → Int → Int
  | .node k i _ _ ks, deep => if k = 2 then max (i + 1 - deep) 0 else freeTs k 0 ks deep
def freeTs (k : Int) (x : Nat) : List TT → Int → Int
  | [], _ => 0
  | t :: ts, deep => max (freeT t (deep + bindsK k x)) (freeTs k (x + 1) ts deep)
end

def markWords : List (List UInt8) := [[115, 111, 114, 116], [], [112, 105], [108, 97, 109], [97, 112, 112], [115, 105, 103], [112, 97, 105, 114], [102, 115, 116], [115, 110, 100], [101, 113], [114, 101, 102, 108], [116, 114], [80, 105], [76, 97, 109], [65, 112, 112], [83, 105, 103], [80, 97, 105, 114], [70, 115, 116], [83, 110, 100], [69, 113], [82, 101, 102, 108], [74], [117, 115, 101]]
/-- a list's word -/
def wordK (k : Int) : List UInt8 := markWords.getD (k - 1).toNat []
def symWords : List (List UInt8) := [[117, 105, 112], [102, 117, 110, 101, 120, 116], [115, 121, 109], [116, 114, 97, 110, 115], [116, 114], [104, 101, 116], [116, 121, 112], [116, 114, 104], [104, 112], [104, 50, 101], [101, 50, 104], [114, 112], [99, 112, 105], [99, 115, 105, 103], [99, 108, 97, 109], [99, 97, 112, 112], [99, 112, 97, 105, 114], [99, 102, 115, 116], [99, 115, 110, 100], [99, 101, 113], [99, 114, 101, 102, 108]]
/-- read.Name -/
def symK (n : Int) : List UInt8 := if n < 1 ∨ 21 < n then [] else symWords.getD (n - 1).toNat []
/-- how many levels stand behind a word -/
def levelsK (k : Int) : Nat := if k = 1 ∨ k = 10 ∨ k = 11 ∨ k = 12 then 1 else if 3 ≤ k ∧ k ≤ 9 ∨ k = 23 then 2 else 0
def nameL (n : Int) : List UInt8 := 118 :: Lib.itoa n
/-- what stands ahead of a term's kids -/
def headT (k i j n : Int) (m : Int) : List UInt8 :=
  40 :: (wordK k ++ (if k = 23 then 32 :: symK n else []) ++ (if 0 < levelsK k then 32 :: Lib.itoa i else []) ++ (if 1 < levelsK k then 32 :: Lib.itoa j else []) ++ (if bindsK k 1 = 1 then 32 :: nameL m else []))

mutual
/-- write.write -/
def writeT : TT → Int → List UInt8
  | .node k i j n ks, m => if k = 2 then nameL (m - 1 - i) else headT k i j n m ++ writeTs k m 0 ks ++ [41]
def writeTs (k m : Int) (x : Nat) : List TT → List UInt8
  | [] => []
  | t :: ts => (if k = 22 ∧ x = 2 then 32 :: (nameL m ++ 32 :: nameL (m + 1)) else []) ++ 32 :: (writeT t (m + bindsK k x) ++ writeTs k m (x + 1) ts)
end
end Go.Proofs.YtefjgpahgffmfaaDoor
