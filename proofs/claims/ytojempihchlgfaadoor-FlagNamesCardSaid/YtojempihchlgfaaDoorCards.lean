/-
  DERIVED. GIVEN WITH THE SEED: THE CARDS: each row of YtojempihchlgfaaDoorRows.lean that lists a variable, with what it lists TIED to the program's text (the seventh form; the later family's looks); each row that meets fmt, with fmt's text TOLD by the authors' own Lean function (tested against real Go, not proved from fmt's source: count such statements apart). THE CARD IS WHAT COUNTS. Prove the row's statement (the work); the ties are given (YtojempihchlgfaaDoorTie.lean); close each card by the builder's one call (the guide's Derived/Test/ToyasCard.lean, 'card_holds'). Laid BY PROGRAM, IN A SANDBOX (cutbox-door.mjs). By AI agents, Wed Nov 11 2026. No macro, syntax, notation, axiom, sorry.
-/
import Derived.Test.YtojempihchlgfaaDoorRows
import GoSem.ClaimSeven
namespace Go.Proofs.YtojempihchlgfaaDoor
namespace Rows

/-- THE TIED CARD OF 'roundhouselaw05.FlagAsks'. -/
def flagAsksCard : Claim7 := { stood := { row := flagAsksRow, standIns := [], harness := (true, "ee7f7a9ecc3eed00106808536623b95d42bd4920a77ba7f5cd7118ba5b63451c"), looks := false }, kinds := [], alts := [], laidByText := true, laidKinds := [.data], laidTests := true, laidLooks := .later }
def FlagAsksCardSaid : Prop := Claim7.holds Tryd.pinned (.plain (OpenSpec.ofChange flagAsksSpec)) flagAsksCard

/-- THE TIED CARD OF 'roundhouselaw05.FlagDrivers'. -/
def flagDriversCard : Claim7 := { stood := { row := flagDriversRow, standIns := [], harness := (true, "ee7f7a9ecc3eed00106808536623b95d42bd4920a77ba7f5cd7118ba5b63451c"), looks := false }, kinds := [], alts := [], laidByText := true, laidKinds := [.data, .data], laidTests := true, laidLooks := .later }
def FlagDriversCardSaid : Prop := Claim7.holds Tryd.pinned (.plain (OpenSpec.ofChange flagDriversSpec)) flagDriversCard

/-- THE TIED CARD OF 'roundhouselaw05.FlagChoice'. -/
def flagChoiceCard : Claim7 := { stood := { row := flagChoiceRow, standIns := [], harness := (true, "ee7f7a9ecc3eed00106808536623b95d42bd4920a77ba7f5cd7118ba5b63451c"), looks := false }, kinds := [], alts := [], laidByText := true, laidKinds := [.data, .data], laidTests := true, laidLooks := .later }
def FlagChoiceCardSaid : Prop := Claim7.holds Tryd.pinned (.plain (OpenSpec.ofChange flagChoiceSpec)) flagChoiceCard

/-- THE TIED CARD OF 'roundhouselaw05.FlagWords'. -/
def flagWordsCard : Claim7 := { stood := { row := flagWordsRow, standIns := [], harness := (true, "ee7f7a9ecc3eed00106808536623b95d42bd4920a77ba7f5cd7118ba5b63451c"), looks := false }, kinds := [], alts := [], laidByText := true, laidKinds := [.data, .data, .pinned], laidTests := true, laidLooks := .later }
def FlagWordsCardSaid : Prop := Claim7.holds Tryd.pinned (.plain (OpenSpec.ofChange flagWordsSpec)) flagWordsCard

/-- THE TIED CARD OF 'roundhouselaw05.FlagBack'. -/
def flagBackCard : Claim7 := { stood := { row := flagBackRow, standIns := [], harness := (true, "ee7f7a9ecc3eed00106808536623b95d42bd4920a77ba7f5cd7118ba5b63451c"), looks := false }, kinds := [], alts := [], laidByText := true, laidKinds := [.data, .data, .pinned], laidTests := true, laidLooks := .later }
def FlagBackCardSaid : Prop := Claim7.holds Tryd.pinned (.plain (OpenSpec.ofChange flagBackSpec)) flagBackCard

/-- THE TIED CARD OF 'roundhouselaw05.FlagJoins'. -/
def flagJoinsCard : Claim7 := { stood := { row := flagJoinsRow, standIns := [], harness := (true, "ee7f7a9ecc3eed00106808536623b95d42bd4920a77ba7f5cd7118ba5b63451c"), looks := false }, kinds := [], alts := [], laidByText := true, laidKinds := [.data, .data, .pinned], laidTests := true, laidLooks := .later }
def FlagJoinsCardSaid : Prop := Claim7.holds Tryd.pinned (.plain (OpenSpec.ofChange flagJoinsSpec)) flagJoinsCard

/-- THE TIED CARD OF 'roundhouselaw05.FlagNames'. -/
def flagNamesCard : Claim7 := { stood := { row := flagNamesRow, standIns := [], harness := (true, "ee7f7a9ecc3eed00106808536623b95d42bd4920a77ba7f5cd7118ba5b63451c"), looks := false }, kinds := [], alts := [], laidByText := true, laidKinds := [.data, .data, .data, .pinned], laidTests := true, laidLooks := .later }
def FlagNamesCardSaid : Prop := Claim7.holds Tryd.pinned (.plain (OpenSpec.ofChange flagNamesSpec)) flagNamesCard

/-- THE SECOND FORM's CARD OF 'roundhouselaw05.FlagAsks'. -/
def flagAsksUptoCard : Claim7 := { stood := { row := flagAsksUptoRow, standIns := [], harness := (true, "ee7f7a9ecc3eed00106808536623b95d42bd4920a77ba7f5cd7118ba5b63451c"), looks := false }, kinds := [], alts := [], laidByText := true, laidKinds := [.data], laidTests := true, laidLooks := .later }
def FlagAsksUptoCardSaid : Prop := Claim7.holds Tryd.pinned (.plain (OpenSpec.upto flagAsksSpec)) flagAsksUptoCard

/-- THE SECOND FORM's CARD OF 'roundhouselaw05.FlagDrivers'. -/
def flagDriversUptoCard : Claim7 := { stood := { row := flagDriversUptoRow, standIns := [], harness := (true, "ee7f7a9ecc3eed00106808536623b95d42bd4920a77ba7f5cd7118ba5b63451c"), looks := false }, kinds := [], alts := [], laidByText := true, laidKinds := [.data, .data], laidTests := true, laidLooks := .later }
def FlagDriversUptoCardSaid : Prop := Claim7.holds Tryd.pinned (.plain (OpenSpec.upto flagDriversSpec)) flagDriversUptoCard

/-- THE SECOND FORM's CARD OF 'roundhouselaw05.FlagChoice'. -/
def flagChoiceUptoCard : Claim7 := { stood := { row := flagChoiceUptoRow, standIns := [], harness := (true, "ee7f7a9ecc3eed00106808536623b95d42bd4920a77ba7f5cd7118ba5b63451c"), looks := false }, kinds := [], alts := [], laidByText := true, laidKinds := [.data, .data], laidTests := true, laidLooks := .later }
def FlagChoiceUptoCardSaid : Prop := Claim7.holds Tryd.pinned (.plain (OpenSpec.upto flagChoiceSpec)) flagChoiceUptoCard

/-- THE SECOND FORM's CARD OF 'roundhouselaw05.FlagWords'. -/
def flagWordsUptoCard : Claim7 := { stood := { row := flagWordsUptoRow, standIns := [], harness := (true, "ee7f7a9ecc3eed00106808536623b95d42bd4920a77ba7f5cd7118ba5b63451c"), looks := false }, kinds := [], alts := [], laidByText := true, laidKinds := [.data, .data, .pinned], laidTests := true, laidLooks := .later }
def FlagWordsUptoCardSaid : Prop := Claim7.holds Tryd.pinned (.plain (OpenSpec.upto flagWordsSpec)) flagWordsUptoCard

/-- THE SECOND FORM's CARD OF 'roundhouselaw05.FlagBack'. -/
def flagBackUptoCard : Claim7 := { stood := { row := flagBackUptoRow, standIns := [], harness := (true, "ee7f7a9ecc3eed00106808536623b95d42bd4920a77ba7f5cd7118ba5b63451c"), looks := false }, kinds := [], alts := [], laidByText := true, laidKinds := [.data, .data, .pinned], laidTests := true, laidLooks := .later }
def FlagBackUptoCardSaid : Prop := Claim7.holds Tryd.pinned (.plain (OpenSpec.upto flagBackSpec)) flagBackUptoCard

/-- THE SECOND FORM's CARD OF 'roundhouselaw05.FlagJoins'. -/
def flagJoinsUptoCard : Claim7 := { stood := { row := flagJoinsUptoRow, standIns := [], harness := (true, "ee7f7a9ecc3eed00106808536623b95d42bd4920a77ba7f5cd7118ba5b63451c"), looks := false }, kinds := [], alts := [], laidByText := true, laidKinds := [.data, .data, .pinned], laidTests := true, laidLooks := .later }
def FlagJoinsUptoCardSaid : Prop := Claim7.holds Tryd.pinned (.plain (OpenSpec.upto flagJoinsSpec)) flagJoinsUptoCard

/-- THE SECOND FORM's CARD OF 'roundhouselaw05.FlagNames'. -/
def flagNamesUptoCard : Claim7 := { stood := { row := flagNamesUptoRow, standIns := [], harness := (true, "ee7f7a9ecc3eed00106808536623b95d42bd4920a77ba7f5cd7118ba5b63451c"), looks := false }, kinds := [], alts := [], laidByText := true, laidKinds := [.data, .data, .data, .pinned], laidTests := true, laidLooks := .later }
def FlagNamesUptoCardSaid : Prop := Claim7.holds Tryd.pinned (.plain (OpenSpec.upto flagNamesSpec)) flagNamesUptoCard
end Rows
end Go.Proofs.YtojempihchlgfaaDoor
