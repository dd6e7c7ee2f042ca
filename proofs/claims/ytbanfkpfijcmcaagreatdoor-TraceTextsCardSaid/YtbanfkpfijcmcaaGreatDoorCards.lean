/-
  DERIVED. GIVEN WITH THE SEED: THE CARDS: each row of YtbanfkpfijcmcaaGreatDoorRows.lean that lists a variable, with what it lists TIED to the program's text (the seventh form; the later family's looks); each row that meets fmt, with fmt's text TOLD by the authors' own Lean function (tested against real Go, not proved from fmt's source: count such statements apart). THE CARD IS WHAT COUNTS. Prove the row's statement (the work); the ties are given (YtbanfkpfijcmcaaGreatDoorTie.lean); close each card by the builder's one call (the guide's Derived/Test/ToyasCard.lean, 'card_holds'). Laid BY PROGRAM, IN A SANDBOX (cutbox-door.mjs). By AI agents, Wed Nov 11 2026. No macro, syntax, notation, axiom, sorry.
-/
import Derived.Test.YtbanfkpfijcmcaaGreatDoorRows
import GoSem.ClaimSeven
namespace Go.Proofs.YtbanfkpfijcmcaaGreatDoor
namespace Rows

/-- THE TIED CARD OF 'roundhouselaw25.TraceNames'. -/
def traceNamesCard : Claim7 := { stood := { row := traceNamesRow, standIns := [], harness := (true, "aab97f583a899cac61ed52a44f1f586af29c7b4ae6085b2c3ea36a85472ab3a6"), looks := true }, kinds := [], alts := [], laidByText := true, laidKinds := [.data, .data, .data, .data, .sentinel, .sentinel, .data, .data, .pinned], laidTests := true, laidLooks := .later }
def TraceNamesCardSaid : Prop := Claim7.holds Tryz.pinned (.plain (OpenSpec.ofChange traceNamesSpec)) traceNamesCard

/-- THE TIED CARD OF 'roundhouselaw25.TraceTexts'. -/
def traceTextsCard : Claim7 := { stood := { row := traceTextsRow, standIns := [], harness := (true, "aab97f583a899cac61ed52a44f1f586af29c7b4ae6085b2c3ea36a85472ab3a6"), looks := true }, kinds := [], alts := [], laidByText := true, laidKinds := [.data, .data, .data, .data, .sentinel, .sentinel, .data, .data, .pinned], laidTests := true, laidLooks := .later }
def TraceTextsCardSaid : Prop := Claim7.holds Tryz.pinned (.plain (OpenSpec.ofChange traceTextsSpec)) traceTextsCard

/-- THE SECOND FORM's CARD OF 'roundhouselaw25.TraceNames'. -/
def traceNamesUptoCard : Claim7 := { stood := { row := traceNamesUptoRow, standIns := [], harness := (true, "aab97f583a899cac61ed52a44f1f586af29c7b4ae6085b2c3ea36a85472ab3a6"), looks := true }, kinds := [], alts := [], laidByText := true, laidKinds := [.data, .data, .data, .data, .sentinel, .sentinel, .data, .data, .pinned], laidTests := true, laidLooks := .later }
def TraceNamesUptoCardSaid : Prop := Claim7.holds Tryz.pinned (.plain (OpenSpec.upto traceNamesSpec)) traceNamesUptoCard

/-- THE SECOND FORM's CARD OF 'roundhouselaw25.TraceTexts'. -/
def traceTextsUptoCard : Claim7 := { stood := { row := traceTextsUptoRow, standIns := [], harness := (true, "aab97f583a899cac61ed52a44f1f586af29c7b4ae6085b2c3ea36a85472ab3a6"), looks := true }, kinds := [], alts := [], laidByText := true, laidKinds := [.data, .data, .data, .data, .sentinel, .sentinel, .data, .data, .pinned], laidTests := true, laidLooks := .later }
def TraceTextsUptoCardSaid : Prop := Claim7.holds Tryz.pinned (.plain (OpenSpec.upto traceTextsSpec)) traceTextsUptoCard
end Rows
end Go.Proofs.YtbanfkpfijcmcaaGreatDoor
