/-
  DERIVED. GIVEN WITH THE SEED: THE CARDS: each row of YtgihociajfgohaaGreatDoorRows.lean that lists a variable, with what it lists TIED to the program's text (the seventh form; the later family's looks); each row that meets fmt, with fmt's text TOLD by the authors' own Lean function (tested against real Go, not proved from fmt's source: count such statements apart). THE CARD IS WHAT COUNTS. Prove the row's statement (the work); the ties are given (YtgihociajfgohaaGreatDoorTie.lean); close each card by the builder's one call (the guide's Derived/Test/ToyasCard.lean, 'card_holds'). Laid BY PROGRAM, IN A SANDBOX (cutbox-door.mjs). By AI agents, Wed Nov 11 2026. No macro, syntax, notation, axiom, sorry.
-/
import Derived.Test.YtgihociajfgohaaGreatDoorRows
import GoSem.ClaimSeven
namespace Go.Proofs.YtgihociajfgohaaGreatDoor
namespace Rows

/-- THE TIED CARD OF 'waterwheellaw23.LogNames'. -/
def logNamesCard : Claim7 := { stood := { row := logNamesRow, standIns := [], harness := (true, "58651825e140989d2f2646aa8cbcf720e1bd415469c31e521ff0636d0fb91134"), looks := true }, kinds := [], alts := [], laidByText := true, laidKinds := [.data, .data, .data, .sentinel, .sentinel], laidTests := true, laidLooks := .later }
def LogNamesCardSaid : Prop := Claim7.holds Tryz.pinned (.plain (OpenSpec.ofChange logNamesSpec)) logNamesCard

/-- THE TIED CARD OF 'waterwheellaw23.LogPure'. -/
def logPureCard : Claim7 := { stood := { row := logPureRow, standIns := [], harness := (true, "58651825e140989d2f2646aa8cbcf720e1bd415469c31e521ff0636d0fb91134"), looks := true }, kinds := [], alts := [], laidByText := true, laidKinds := [.data, .data, .data, .sentinel, .sentinel], laidTests := true, laidLooks := .later }
def LogPureCardSaid : Prop := Claim7.holds Tryz.pinned (.plain (OpenSpec.ofChange logPureSpec)) logPureCard

/-- THE TIED CARD OF 'waterwheellaw23.LogKeeps'. -/
def logKeepsCard : Claim7 := { stood := { row := logKeepsRow, standIns := [], harness := (true, "58651825e140989d2f2646aa8cbcf720e1bd415469c31e521ff0636d0fb91134"), looks := true }, kinds := [], alts := [], laidByText := true, laidKinds := [.data, .data, .data, .sentinel, .sentinel], laidTests := true, laidLooks := .later }
def LogKeepsCardSaid : Prop := Claim7.holds Tryz.pinned (.plain (OpenSpec.ofChange logKeepsSpec)) logKeepsCard

/-- THE TIED CARD OF 'waterwheellaw23.LogNil'. -/
def logNilCard : Claim7 := { stood := { row := logNilRow, standIns := [], harness := (true, "58651825e140989d2f2646aa8cbcf720e1bd415469c31e521ff0636d0fb91134"), looks := true }, kinds := [], alts := [], laidByText := true, laidKinds := [.data, .data, .data, .sentinel, .sentinel], laidTests := true, laidLooks := .later }
def LogNilCardSaid : Prop := Claim7.holds Tryz.pinned (.plain (OpenSpec.ofChange logNilSpec)) logNilCard

/-- THE TIED CARD OF 'waterwheellaw23.LogParts'. -/
def logPartsCard : Claim7 := { stood := { row := logPartsRow, standIns := [], harness := (true, "58651825e140989d2f2646aa8cbcf720e1bd415469c31e521ff0636d0fb91134"), looks := true }, kinds := [], alts := [], laidByText := true, laidKinds := [.data, .data, .data, .sentinel, .sentinel], laidTests := true, laidLooks := .later }
def LogPartsCardSaid : Prop := Claim7.holds Tryz.pinned (.plain (OpenSpec.ofChange logPartsSpec)) logPartsCard

/-- THE SECOND FORM's CARD OF 'waterwheellaw23.LogNames'. -/
def logNamesUptoCard : Claim7 := { stood := { row := logNamesUptoRow, standIns := [], harness := (true, "58651825e140989d2f2646aa8cbcf720e1bd415469c31e521ff0636d0fb91134"), looks := true }, kinds := [], alts := [], laidByText := true, laidKinds := [.data, .data, .data, .sentinel, .sentinel], laidTests := true, laidLooks := .later }
def LogNamesUptoCardSaid : Prop := Claim7.holds Tryz.pinned (.plain (OpenSpec.upto logNamesSpec)) logNamesUptoCard

/-- THE SECOND FORM's CARD OF 'waterwheellaw23.LogPure'. -/
def logPureUptoCard : Claim7 := { stood := { row := logPureUptoRow, standIns := [], harness := (true, "58651825e140989d2f2646aa8cbcf720e1bd415469c31e521ff0636d0fb91134"), looks := true }, kinds := [], alts := [], laidByText := true, laidKinds := [.data, .data, .data, .sentinel, .sentinel], laidTests := true, laidLooks := .later }
def LogPureUptoCardSaid : Prop := Claim7.holds Tryz.pinned (.plain (OpenSpec.upto logPureSpec)) logPureUptoCard

/-- THE SECOND FORM's CARD OF 'waterwheellaw23.LogKeeps'. -/
def logKeepsUptoCard : Claim7 := { stood := { row := logKeepsUptoRow, standIns := [], harness := (true, "58651825e140989d2f2646aa8cbcf720e1bd415469c31e521ff0636d0fb91134"), looks := true }, kinds := [], alts := [], laidByText := true, laidKinds := [.data, .data, .data, .sentinel, .sentinel], laidTests := true, laidLooks := .later }
def LogKeepsUptoCardSaid : Prop := Claim7.holds Tryz.pinned (.plain (OpenSpec.upto logKeepsSpec)) logKeepsUptoCard

/-- THE SECOND FORM's CARD OF 'waterwheellaw23.LogNil'. -/
def logNilUptoCard : Claim7 := { stood := { row := logNilUptoRow, standIns := [], harness := (true, "58651825e140989d2f2646aa8cbcf720e1bd415469c31e521ff0636d0fb91134"), looks := true }, kinds := [], alts := [], laidByText := true, laidKinds := [.data, .data, .data, .sentinel, .sentinel], laidTests := true, laidLooks := .later }
def LogNilUptoCardSaid : Prop := Claim7.holds Tryz.pinned (.plain (OpenSpec.upto logNilSpec)) logNilUptoCard

/-- THE SECOND FORM's CARD OF 'waterwheellaw23.LogParts'. -/
def logPartsUptoCard : Claim7 := { stood := { row := logPartsUptoRow, standIns := [], harness := (true, "58651825e140989d2f2646aa8cbcf720e1bd415469c31e521ff0636d0fb91134"), looks := true }, kinds := [], alts := [], laidByText := true, laidKinds := [.data, .data, .data, .sentinel, .sentinel], laidTests := true, laidLooks := .later }
def LogPartsUptoCardSaid : Prop := Claim7.holds Tryz.pinned (.plain (OpenSpec.upto logPartsSpec)) logPartsUptoCard
end Rows
end Go.Proofs.YtgihociajfgohaaGreatDoor
