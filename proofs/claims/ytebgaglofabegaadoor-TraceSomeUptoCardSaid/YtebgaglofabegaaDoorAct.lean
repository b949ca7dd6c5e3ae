/-
  Acts as plain data: which may be told, and their lines and texts. No program stands here.
-/
import Derived.Test.YtebgaglofabegaaDoorNum
import Derived.Test.YtebgaglofabegaaDoorText
namespace Go.Proofs.YtebgaglofabegaaDoor
open Go.Lib

structure ActV where
  kind : Int
  who : Int
  n : Int
  m : Int
deriving DecidableEq, Repr

def timeP (n : Int) : Prop := 0 ≤ n ∧ n ≤ 4503599627370496
instance (n : Int) : Decidable (timeP n) := inferInstanceAs (Decidable (_ ∧ _))

/-- Which acts may be told. -/
def okAct (a : ActV) : Prop :=
  1 ≤ a.kind ∧ a.kind ≤ 7 ∧ 0 ≤ a.who ∧ a.who ≤ 63 ∧ timeP a.n ∧ timeP a.m ∧
    (a.kind = 1 → a.who = 0 ∧ a.m = 0) ∧ (a.kind = 3 ∨ a.kind = 5 → a.m = 0) ∧ (a.kind = 6 ∨ a.kind = 7 → a.n = 0 ∧ a.m = 0)
instance (a : ActV) : Decidable (okAct a) := inferInstanceAs (Decidable (_ ∧ _))

def actWord (k : Int) : Bs :=
  if k = 1 then [97, 100, 118, 97, 110, 99, 101]
  else if k = 2 then [114, 97, 105, 115, 101]
  else if k = 3 then [114, 101, 108, 101, 97, 115, 101]
  else if k = 4 then [108, 97, 116, 101, 114]
  else if k = 5 then [99, 111, 115, 116]
  else if k = 6 then [115, 117, 115, 112, 101, 110, 100]
  else if k = 7 then [114, 101, 115, 117, 109, 101]
  else []

/-- The numbers that a kind's line tells. -/
def actNums (a : ActV) : List Int :=
  if a.kind = 1 then [a.n]
  else if a.kind = 2 ∨ a.kind = 4 then [a.who, a.n, a.m]
  else if a.kind = 3 ∨ a.kind = 5 then [a.who, a.n]
  else [a.who]

/-- Numbers, each behind a blank. -/
def sayNums (l : List Int) : Bs := (l.map fun n => 32 :: itoa n).flatten
def actLine (a : ActV) : Bs := actWord a.kind ++ sayNums (actNums a)

end Go.Proofs.YtebgaglofabegaaDoor
