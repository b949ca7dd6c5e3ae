/-
  Marks as plain data: which are right, their lines and texts. No program stands here.
-/
import Derived.Test.YtebgaglofabegaaDoorActP
namespace Go.Proofs.YtebgaglofabegaaDoor
open Go.Lib

structure MarkV where
  time : Int
  kind : Int
  who : Int
  a : Int
deriving DecidableEq, Repr

def okMark (m : MarkV) : Prop := 1 ≤ m.kind ∧ m.kind ≤ 11 ∧ timeP m.time ∧ 0 ≤ m.who ∧ m.who ≤ 63 ∧ timeP m.a
instance (m : MarkV) : Decidable (okMark m) := inferInstanceAs (Decidable (_ ∧ _))

def markWord (k : Int) : Bs :=
  if k = 1 then [114, 101, 108, 101, 97, 115, 101]
  else if k = 2 then [100, 111, 110, 101]
  else if k = 3 then [108, 111, 115, 116]
  else if k = 4 then [101, 110, 116, 101, 114]
  else if k = 5 then [115, 101, 114, 118, 101, 100]
  else if k = 6 then [109, 101, 114, 103, 101, 100]
  else if k = 7 then [109, 97, 115, 107, 101, 100]
  else if k = 8 then [117, 110, 109, 97, 115, 107, 101, 100]
  else if k = 9 then [98, 111, 116, 116, 111, 109]
  else if k = 10 then [100, 114, 111, 112, 112, 101, 100]
  else if k = 11 then [114, 117, 110]
  else []

def markLine (m : MarkV) : Bs := itoa m.time ++ 32 :: (markWord m.kind ++ 32 :: (itoa m.who ++ 32 :: itoa m.a))

end Go.Proofs.YtebgaglofabegaaDoor
