/-
  A world for the witnesses: what the program's own initialisers leave, and Go's pinned table in its variable.
-/
import Derived.Test.YtebgaglofabegaaDoorClose
import Derived.LaidMore
import Derived.Stop.Joined
namespace Go.Proofs.YtebgaglofabegaaDoor
open Go.ChangeShapes Go.WideShapes Go.ChangeAt Go.RowKit

def pinCells : Array Value := match (Go.Pinned.utf8First : DataW Unit) with
  | .agg l => (l.map fun d => match d with | .lit (.int k n) => Value.int k n | _ => undef).toArray
  | _ => #[]

noncomputable def doorW (os : Os) : World :=
  { World.doorLaid Tryd.prog 82 os with heap := (World.doorLaid Tryd.prog 82 os).heap.modify 6 fun
      | .cells _ t frozen => .cells pinCells t frozen
      | o => o }

theorem door_script (os : Os) (args : Array Value) : laidMetH Tryd.prog Rows.scriptBackUptoRow.laid ((doorW os).forCall (fun _ _ => 0) ⟨#[], args, []⟩).memory :=
  laidMetH_of_parts3 (fuel := 8) (laidMet_of_run' 8 (by kernel_rfl) (by kernel_rfl)) (by kernel_rfl) (by kernel_rfl)

end Go.Proofs.YtebgaglofabegaaDoor
