/-
  DERIVED. GIVEN WITH THE SEED: THE CARDS: each row of YtebgaglofabegaaDoorRows.lean that lists a variable, with what it lists TIED to the program's text (the seventh form; the later family's looks); each row that meets fmt, with fmt's text TOLD by the authors' own Lean function (tested against real Go, not proved from fmt's source: count such statements apart). THE CARD IS WHAT COUNTS. Prove the row's statement (the work); the ties are given (YtebgaglofabegaaDoorTie.lean); close each card by the builder's one call (the guide's Derived/Test/ToyasCard.lean, 'card_holds'). Laid BY PROGRAM, IN A SANDBOX (cutbox-door.mjs). By AI agents, Wed Nov 11 2026. No macro, syntax, notation, axiom, sorry.
-/
import Derived.Test.YtebgaglofabegaaDoorRows
import GoSem.ClaimSeven
namespace Go.Proofs.YtebgaglofabegaaDoor
namespace Rows

/-- THE TIED CARD OF 'vergelaw21.TraceSome'. -/
def traceSomeCard : Claim7 := { stood := { row := traceSomeRow, standIns := [], harness := (true, "e3a9f129cd7717b6892c647efba18b04a6d6215836a4ab8113a1549f04b36cf0"), looks := true }, kinds := [], alts := [], laidByText := true, laidKinds := [.data, .data, .data, .data, .sentinel, .sentinel, .data, .pinned], laidTests := true, laidLooks := .later }
def TraceSomeCardSaid : Prop := Claim7.holds Tryd.pinned (.plain (OpenSpec.ofChange traceSomeSpec)) traceSomeCard

/-- THE TIED CARD OF 'vergelaw31.ScriptLines'. -/
def scriptLinesCard : Claim7 := { stood := { row := scriptLinesRow, standIns := [], harness := (true, "e3a9f129cd7717b6892c647efba18b04a6d6215836a4ab8113a1549f04b36cf0"), looks := true }, kinds := [], alts := [], laidByText := true, laidKinds := [.data, .data, .data, .data, .sentinel, .sentinel, .data, .pinned], laidTests := true, laidLooks := .later }
def ScriptLinesCardSaid : Prop := Claim7.holds Tryd.pinned (.plain (OpenSpec.ofChange scriptLinesSpec)) scriptLinesCard

/-- THE TIED CARD OF 'vergelaw31.ScriptTexts'. -/
def scriptTextsCard : Claim7 := { stood := { row := scriptTextsRow, standIns := [], harness := (true, "e3a9f129cd7717b6892c647efba18b04a6d6215836a4ab8113a1549f04b36cf0"), looks := true }, kinds := [], alts := [], laidByText := true, laidKinds := [.data, .data, .data, .data, .sentinel, .sentinel, .data, .pinned], laidTests := true, laidLooks := .later }
def ScriptTextsCardSaid : Prop := Claim7.holds Tryd.pinned (.plain (OpenSpec.ofChange scriptTextsSpec)) scriptTextsCard

/-- THE TIED CARD OF 'vergelaw31.ScriptBack'. -/
def scriptBackCard : Claim7 := { stood := { row := scriptBackRow, standIns := [], harness := (true, "e3a9f129cd7717b6892c647efba18b04a6d6215836a4ab8113a1549f04b36cf0"), looks := true }, kinds := [], alts := [], laidByText := true, laidKinds := [.data, .data, .data, .data, .sentinel, .sentinel, .data, .pinned], laidTests := true, laidLooks := .later }
def ScriptBackCardSaid : Prop := Claim7.holds Tryd.pinned (.plain (OpenSpec.ofChange scriptBackSpec)) scriptBackCard

/-- THE TIED CARD OF 'vergelaw26.ConfigPuts'. -/
def configPutsCard : Claim7 := { stood := { row := configPutsRow, standIns := [], harness := (true, "e3a9f129cd7717b6892c647efba18b04a6d6215836a4ab8113a1549f04b36cf0"), looks := true }, kinds := [], alts := [], laidByText := true, laidKinds := [.data, .data, .data, .data, .sentinel, .sentinel, .pinned], laidTests := true, laidLooks := .later }
def ConfigPutsCardSaid : Prop := Claim7.holds Tryd.pinned (.plain (OpenSpec.ofChange configPutsSpec)) configPutsCard

/-- THE TIED CARD OF 'vergelaw26.ConfigGets'. -/
def configGetsCard : Claim7 := { stood := { row := configGetsRow, standIns := [], harness := (true, "e3a9f129cd7717b6892c647efba18b04a6d6215836a4ab8113a1549f04b36cf0"), looks := true }, kinds := [], alts := [], laidByText := true, laidKinds := [.data, .data, .data, .data, .sentinel, .sentinel, .pinned], laidTests := true, laidLooks := .later }
def ConfigGetsCardSaid : Prop := Claim7.holds Tryd.pinned (.plain (OpenSpec.ofChange configGetsSpec)) configGetsCard

/-- THE TIED CARD OF 'vergelaw26.ConfigBack'. -/
def configBackCard : Claim7 := { stood := { row := configBackRow, standIns := [], harness := (true, "e3a9f129cd7717b6892c647efba18b04a6d6215836a4ab8113a1549f04b36cf0"), looks := true }, kinds := [], alts := [], laidByText := true, laidKinds := [.data, .data, .data, .data, .sentinel, .sentinel, .pinned], laidTests := true, laidLooks := .later }
def ConfigBackCardSaid : Prop := Claim7.holds Tryd.pinned (.plain (OpenSpec.ofChange configBackSpec)) configBackCard

/-- THE SECOND FORM's CARD OF 'vergelaw21.TraceSome'. -/
def traceSomeUptoCard : Claim7 := { stood := { row := traceSomeUptoRow, standIns := [], harness := (true, "e3a9f129cd7717b6892c647efba18b04a6d6215836a4ab8113a1549f04b36cf0"), looks := true }, kinds := [], alts := [], laidByText := true, laidKinds := [.data, .data, .data, .data, .sentinel, .sentinel, .data, .pinned], laidTests := true, laidLooks := .later }
def TraceSomeUptoCardSaid : Prop := Claim7.holds Tryd.pinned (.plain (OpenSpec.upto traceSomeSpec)) traceSomeUptoCard

/-- THE SECOND FORM's CARD OF 'vergelaw31.ScriptLines'. -/
def scriptLinesUptoCard : Claim7 := { stood := { row := scriptLinesUptoRow, standIns := [], harness := (true, "e3a9f129cd7717b6892c647efba18b04a6d6215836a4ab8113a1549f04b36cf0"), looks := true }, kinds := [], alts := [], laidByText := true, laidKinds := [.data, .data, .data, .data, .sentinel, .sentinel, .data, .pinned], laidTests := true, laidLooks := .later }
def ScriptLinesUptoCardSaid : Prop := Claim7.holds Tryd.pinned (.plain (OpenSpec.upto scriptLinesSpec)) scriptLinesUptoCard

/-- THE SECOND FORM's CARD OF 'vergelaw31.ScriptTexts'. -/
def scriptTextsUptoCard : Claim7 := { stood := { row := scriptTextsUptoRow, standIns := [], harness := (true, "e3a9f129cd7717b6892c647efba18b04a6d6215836a4ab8113a1549f04b36cf0"), looks := true }, kinds := [], alts := [], laidByText := true, laidKinds := [.data, .data, .data, .data, .sentinel, .sentinel, .data, .pinned], laidTests := true, laidLooks := .later }
def ScriptTextsUptoCardSaid : Prop := Claim7.holds Tryd.pinned (.plain (OpenSpec.upto scriptTextsSpec)) scriptTextsUptoCard

/-- THE SECOND FORM's CARD OF 'vergelaw31.ScriptBack'. -/
def scriptBackUptoCard : Claim7 := { stood := { row := scriptBackUptoRow, standIns := [], harness := (true, "e3a9f129cd7717b6892c647efba18b04a6d6215836a4ab8113a1549f04b36cf0"), looks := true }, kinds := [], alts := [], laidByText := true, laidKinds := [.data, .data, .data, .data, .sentinel, .sentinel, .data, .pinned], laidTests := true, laidLooks := .later }
def ScriptBackUptoCardSaid : Prop := Claim7.holds Tryd.pinned (.plain (OpenSpec.upto scriptBackSpec)) scriptBackUptoCard

/-- THE SECOND FORM's CARD OF 'vergelaw26.ConfigPuts'. -/
def configPutsUptoCard : Claim7 := { stood := { row := configPutsUptoRow, standIns := [], harness := (true, "e3a9f129cd7717b6892c647efba18b04a6d6215836a4ab8113a1549f04b36cf0"), looks := true }, kinds := [], alts := [], laidByText := true, laidKinds := [.data, .data, .data, .data, .sentinel, .sentinel, .pinned], laidTests := true, laidLooks := .later }
def ConfigPutsUptoCardSaid : Prop := Claim7.holds Tryd.pinned (.plain (OpenSpec.upto configPutsSpec)) configPutsUptoCard

/-- THE SECOND FORM's CARD OF 'vergelaw26.ConfigGets'. -/
def configGetsUptoCard : Claim7 := { stood := { row := configGetsUptoRow, standIns := [], harness := (true, "e3a9f129cd7717b6892c647efba18b04a6d6215836a4ab8113a1549f04b36cf0"), looks := true }, kinds := [], alts := [], laidByText := true, laidKinds := [.data, .data, .data, .data, .sentinel, .sentinel, .pinned], laidTests := true, laidLooks := .later }
def ConfigGetsUptoCardSaid : Prop := Claim7.holds Tryd.pinned (.plain (OpenSpec.upto configGetsSpec)) configGetsUptoCard

/-- THE SECOND FORM's CARD OF 'vergelaw26.ConfigBack'. -/
def configBackUptoCard : Claim7 := { stood := { row := configBackUptoRow, standIns := [], harness := (true, "e3a9f129cd7717b6892c647efba18b04a6d6215836a4ab8113a1549f04b36cf0"), looks := true }, kinds := [], alts := [], laidByText := true, laidKinds := [.data, .data, .data, .data, .sentinel, .sentinel, .pinned], laidTests := true, laidLooks := .later }
def ConfigBackUptoCardSaid : Prop := Claim7.holds Tryd.pinned (.plain (OpenSpec.upto configBackSpec)) configBackUptoCard
end Rows
end Go.Proofs.YtebgaglofabegaaDoor
