/-
  DERIVED. GIVEN WITH THE SEED: THE CARDS: each row of YtljfnfaljadjdaaDoorRows.lean that lists a variable, with what it lists TIED to the program's text (the seventh form; the later family's looks); each row that meets fmt, with fmt's text TOLD by the authors' own Lean function (tested against real Go, not proved from fmt's source: count such statements apart). THE CARD IS WHAT COUNTS. Prove the row's statement (the work); the ties are given (YtljfnfaljadjdaaDoorTie.lean); close each card by the builder's one call (the guide's Derived/Test/ToyasCard.lean, 'card_holds'). Laid BY PROGRAM, IN A SANDBOX (cutbox-door.mjs). By AI agents, Wed Nov 11 2026. No macro, syntax, notation, axiom, sorry.
-/
import Derived.Test.YtljfnfaljadjdaaDoorRows
import GoSem.ClaimSeven
namespace Go.Proofs.YtljfnfaljadjdaaDoor
namespace Rows

/-- THE TIED CARD OF 'roundhouselaw01.FdsetOne'. -/
def fdsetOneCard : Claim7 := { stood := { row := fdsetOneRow, standIns := [], harness := (true, "ad1078f249d418ed780acc24c5e5f0a221af60a9fbbdada85e5797fe1e4a1758"), looks := true }, kinds := [], alts := [], laidByText := true, laidKinds := [.data, .data, .data], laidTests := true, laidLooks := .later }
def FdsetOneCardSaid : Prop := Claim7.holds Tryd.pinned (.plain (OpenSpec.ofChange fdsetOneSpec)) fdsetOneCard

/-- THE TIED CARD OF 'roundhouselaw01.FdsetParts'. -/
def fdsetPartsCard : Claim7 := { stood := { row := fdsetPartsRow, standIns := [], harness := (true, "ad1078f249d418ed780acc24c5e5f0a221af60a9fbbdada85e5797fe1e4a1758"), looks := true }, kinds := [], alts := [], laidByText := true, laidKinds := [.data, .data, .data], laidTests := true, laidLooks := .later }
def FdsetPartsCardSaid : Prop := Claim7.holds Tryd.pinned (.plain (OpenSpec.ofChange fdsetPartsSpec)) fdsetPartsCard

/-- THE TIED CARD OF 'roundhouselaw01.FdsetSteps'. -/
def fdsetStepsCard : Claim7 := { stood := { row := fdsetStepsRow, standIns := [], harness := (true, "ad1078f249d418ed780acc24c5e5f0a221af60a9fbbdada85e5797fe1e4a1758"), looks := true }, kinds := [], alts := [], laidByText := true, laidKinds := [.data, .data, .data], laidTests := true, laidLooks := .later }
def FdsetStepsCardSaid : Prop := Claim7.holds Tryd.pinned (.plain (OpenSpec.ofChange fdsetStepsSpec)) fdsetStepsCard

/-- THE TIED CARD OF 'roundhouselaw01.FdsetCounts'. -/
def fdsetCountsCard : Claim7 := { stood := { row := fdsetCountsRow, standIns := [], harness := (true, "ad1078f249d418ed780acc24c5e5f0a221af60a9fbbdada85e5797fe1e4a1758"), looks := true }, kinds := [], alts := [], laidByText := true, laidKinds := [.data, .data, .data], laidTests := true, laidLooks := .later }
def FdsetCountsCardSaid : Prop := Claim7.holds Tryd.pinned (.plain (OpenSpec.ofChange fdsetCountsSpec)) fdsetCountsCard

/-- THE TIED CARD OF 'roundhouselaw01.FdsetTexts'. -/
def fdsetTextsCard : Claim7 := { stood := { row := fdsetTextsRow, standIns := [], harness := (true, "ad1078f249d418ed780acc24c5e5f0a221af60a9fbbdada85e5797fe1e4a1758"), looks := true }, kinds := [], alts := [], laidByText := true, laidKinds := [.data, .data, .data, .data, .sentinel, .sentinel, .pinned], laidTests := true, laidLooks := .later }
def FdsetTextsCardSaid : Prop := Claim7.holds Tryd.pinned (.plain (OpenSpec.ofChange fdsetTextsSpec)) fdsetTextsCard

/-- THE TIED CARD OF 'roundhouselaw01.FdsetNames'. -/
def fdsetNamesCard : Claim7 := { stood := { row := fdsetNamesRow, standIns := [], harness := (true, "ad1078f249d418ed780acc24c5e5f0a221af60a9fbbdada85e5797fe1e4a1758"), looks := true }, kinds := [], alts := [], laidByText := true, laidKinds := [.data, .data, .data, .data, .sentinel, .sentinel, .pinned], laidTests := true, laidLooks := .later }
def FdsetNamesCardSaid : Prop := Claim7.holds Tryd.pinned (.plain (OpenSpec.ofChange fdsetNamesSpec)) fdsetNamesCard

/-- THE TIED CARD OF 'roundhouselaw01.FdsetBack'. -/
def fdsetBackCard : Claim7 := { stood := { row := fdsetBackRow, standIns := [], harness := (true, "ad1078f249d418ed780acc24c5e5f0a221af60a9fbbdada85e5797fe1e4a1758"), looks := true }, kinds := [], alts := [], laidByText := true, laidKinds := [.data, .data, .data, .data, .sentinel, .sentinel, .pinned], laidTests := true, laidLooks := .later }
def FdsetBackCardSaid : Prop := Claim7.holds Tryd.pinned (.plain (OpenSpec.ofChange fdsetBackSpec)) fdsetBackCard

/-- THE SECOND FORM's CARD OF 'roundhouselaw01.FdsetOne'. -/
def fdsetOneUptoCard : Claim7 := { stood := { row := fdsetOneUptoRow, standIns := [], harness := (true, "ad1078f249d418ed780acc24c5e5f0a221af60a9fbbdada85e5797fe1e4a1758"), looks := true }, kinds := [], alts := [], laidByText := true, laidKinds := [.data, .data, .data], laidTests := true, laidLooks := .later }
def FdsetOneUptoCardSaid : Prop := Claim7.holds Tryd.pinned (.plain (OpenSpec.upto fdsetOneSpec)) fdsetOneUptoCard

/-- THE SECOND FORM's CARD OF 'roundhouselaw01.FdsetParts'. -/
def fdsetPartsUptoCard : Claim7 := { stood := { row := fdsetPartsUptoRow, standIns := [], harness := (true, "ad1078f249d418ed780acc24c5e5f0a221af60a9fbbdada85e5797fe1e4a1758"), looks := true }, kinds := [], alts := [], laidByText := true, laidKinds := [.data, .data, .data], laidTests := true, laidLooks := .later }
def FdsetPartsUptoCardSaid : Prop := Claim7.holds Tryd.pinned (.plain (OpenSpec.upto fdsetPartsSpec)) fdsetPartsUptoCard

/-- THE SECOND FORM's CARD OF 'roundhouselaw01.FdsetSteps'. -/
def fdsetStepsUptoCard : Claim7 := { stood := { row := fdsetStepsUptoRow, standIns := [], harness := (true, "ad1078f249d418ed780acc24c5e5f0a221af60a9fbbdada85e5797fe1e4a1758"), looks := true }, kinds := [], alts := [], laidByText := true, laidKinds := [.data, .data, .data], laidTests := true, laidLooks := .later }
def FdsetStepsUptoCardSaid : Prop := Claim7.holds Tryd.pinned (.plain (OpenSpec.upto fdsetStepsSpec)) fdsetStepsUptoCard

/-- THE SECOND FORM's CARD OF 'roundhouselaw01.FdsetCounts'. -/
def fdsetCountsUptoCard : Claim7 := { stood := { row := fdsetCountsUptoRow, standIns := [], harness := (true, "ad1078f249d418ed780acc24c5e5f0a221af60a9fbbdada85e5797fe1e4a1758"), looks := true }, kinds := [], alts := [], laidByText := true, laidKinds := [.data, .data, .data], laidTests := true, laidLooks := .later }
def FdsetCountsUptoCardSaid : Prop := Claim7.holds Tryd.pinned (.plain (OpenSpec.upto fdsetCountsSpec)) fdsetCountsUptoCard

/-- THE SECOND FORM's CARD OF 'roundhouselaw01.FdsetTexts'. -/
def fdsetTextsUptoCard : Claim7 := { stood := { row := fdsetTextsUptoRow, standIns := [], harness := (true, "ad1078f249d418ed780acc24c5e5f0a221af60a9fbbdada85e5797fe1e4a1758"), looks := true }, kinds := [], alts := [], laidByText := true, laidKinds := [.data, .data, .data, .data, .sentinel, .sentinel, .pinned], laidTests := true, laidLooks := .later }
def FdsetTextsUptoCardSaid : Prop := Claim7.holds Tryd.pinned (.plain (OpenSpec.upto fdsetTextsSpec)) fdsetTextsUptoCard

/-- THE SECOND FORM's CARD OF 'roundhouselaw01.FdsetNames'. -/
def fdsetNamesUptoCard : Claim7 := { stood := { row := fdsetNamesUptoRow, standIns := [], harness := (true, "ad1078f249d418ed780acc24c5e5f0a221af60a9fbbdada85e5797fe1e4a1758"), looks := true }, kinds := [], alts := [], laidByText := true, laidKinds := [.data, .data, .data, .data, .sentinel, .sentinel, .pinned], laidTests := true, laidLooks := .later }
def FdsetNamesUptoCardSaid : Prop := Claim7.holds Tryd.pinned (.plain (OpenSpec.upto fdsetNamesSpec)) fdsetNamesUptoCard

/-- THE SECOND FORM's CARD OF 'roundhouselaw01.FdsetBack'. -/
def fdsetBackUptoCard : Claim7 := { stood := { row := fdsetBackUptoRow, standIns := [], harness := (true, "ad1078f249d418ed780acc24c5e5f0a221af60a9fbbdada85e5797fe1e4a1758"), looks := true }, kinds := [], alts := [], laidByText := true, laidKinds := [.data, .data, .data, .data, .sentinel, .sentinel, .pinned], laidTests := true, laidLooks := .later }
def FdsetBackUptoCardSaid : Prop := Claim7.holds Tryd.pinned (.plain (OpenSpec.upto fdsetBackSpec)) fdsetBackUptoCard
end Rows
end Go.Proofs.YtljfnfaljadjdaaDoor
