/-
  NARROWER THAN 'FOR EVERY INPUT', by the rows' own cells (each row's printed sentence says how): FlagAsks: laid · FlagDrivers: laid · FlagChoice: laid · FlagWords: laid · FlagBack: laid · FlagJoins: laid · FlagNames: laid.
  DERIVED. THE GIVEN ROWS OF THIS SEAT. 7 by the template 'for every input the law returns true; each argument reads behind the call as it read before'; 0 by the template 'total and deterministic' (their statements: YtojempihchlgfaaDoorTotals.lean).
  GIVEN WITH THE SEED: the statements are not yours to turn. If you find one false, say at which input.
  Laid BY PROGRAM, IN A SANDBOX (cutbox-rows.mjs): the forced cells as the released guide's own fill.sh prints them over the translation f654a9b198253fa0… (all of the seat's roots in one cut). By AI agents, Wed Nov 11 2026. No macro, syntax, notation, axiom, sorry.
-/
import Derived.Test.YtojempihchlgfaaDoorChecked
import GoSem.PinnedTables
import GoSem.Claim
import GoSem.ClaimJoined
import GoSem.ClaimMapViews
import Derived.JoinedTies
import Derived.KernelRfl
namespace Go.Proofs.YtojempihchlgfaaDoor
/- THE CELL 'sum', in the pinned program and in every row, IS THE sha256 OF THE DUMP (.gsa) THAT YtojempihchlgfaaDoorProg.lean LOADS. Nothing in Lean hashes anything: it is a label: what it is worth is what the hold of that sum in a sandbox is worth. -/
noncomputable def Tryd.pinned : Pinned := { name := "ytojempihchlgfaadoor", sum := "f654a9b198253fa09898609a136366f332967d780e29a51358698ddce2c38479", checked := Tryd.checked }
namespace Rows
def none {H : Type} : Left H := { results := [], args := [] }

/- WHAT THE LISTED PACKAGE-LEVEL VARIABLES READ AS WHEN THE CALL BEGINS. Each datum BY PROGRAM (the guide's laid-datum.mjs) off the statement by which the dump's own 'gosem.cut.vars' lays the variable. In a bare row this is a premise. The card (YtojempihchlgfaaDoorCards.lean) ties it to the program's text. -/
def laid_roundhouse_flag_words {H : Type} : DataW H := .agg [.agg [.lit (.string [116, 105, 109, 101, 111, 117, 116]), .lit (.string [114, 101, 97, 100]), .lit (.string [119, 114, 105, 116, 101]), .lit (.string [115, 105, 103, 110, 97, 108]), .lit (.string [112, 101, 114, 115, 105, 115, 116]), .lit (.string [101, 100, 103, 101])], .agg [.lit (.string [101, 100, 103, 101]), .lit (.string [98, 105, 103]), .lit (.string [115, 105, 103, 110, 97, 108, 115]), .lit (.string [99, 104, 97, 110, 103, 101, 115]), .lit (.string []), .lit (.string [])], .agg [.lit (.string [115, 101, 108, 101, 99, 116]), .lit (.string [112, 111, 108, 108]), .lit (.string [101, 112, 111, 108, 108]), .lit (.string [107, 113, 117, 101, 117, 101]), .lit (.string []), .lit (.string [])]]
def laid_roundhouse_flag_has {H : Type} : DataW H := .agg [.lit (.int .i64 0), .lit (.int .i64 2), .lit (.int .i64 11), .lit (.int .i64 15)]
def laid_unicode_utf8_acceptRanges {H : Type} : DataW H := .agg [.agg [.lit (.int .u8 128), .lit (.int .u8 191)], .agg [.lit (.int .u8 160), .lit (.int .u8 191)], .agg [.lit (.int .u8 128), .lit (.int .u8 159)], .agg [.lit (.int .u8 144), .lit (.int .u8 191)], .agg [.lit (.int .u8 128), .lit (.int .u8 143)], .agg [.lit (.int .u8 0), .lit (.int .u8 0)], .agg [.lit (.int .u8 0), .lit (.int .u8 0)], .agg [.lit (.int .u8 0), .lit (.int .u8 0)], .agg [.lit (.int .u8 0), .lit (.int .u8 0)], .agg [.lit (.int .u8 0), .lit (.int .u8 0)], .agg [.lit (.int .u8 0), .lit (.int .u8 0)], .agg [.lit (.int .u8 0), .lit (.int .u8 0)], .agg [.lit (.int .u8 0), .lit (.int .u8 0)], .agg [.lit (.int .u8 0), .lit (.int .u8 0)], .agg [.lit (.int .u8 0), .lit (.int .u8 0)], .agg [.lit (.int .u8 0), .lit (.int .u8 0)]]
/-- One of Go's own tables, pinned by name: the form's constant. -/
def laid_unicode_utf8_first : DataW Unit := Go.Pinned.utf8First

/-- 'roundhouselaw05.FlagAsks': WHATEVER THE INPUT: true; the input reads as it did. -/
def flagAsksSpec : ChangeSpec := { name := "flagAsks", fn := fun _ => fun
  | [d1, d2, d3] => { results := [.lit (.bool true)], args := [d1, d2, d3] }
  | _ => none }
def flagAsksRow : OpenClaim := { program := "ytojempihchlgfaadoor", sum := "f654a9b198253fa09898609a136366f332967d780e29a51358698ddce2c38479", func := "roundhouse/roundhouselaw05.FlagAsks", spec := "flagAsks", named := ["roundhouse/flag.words"], apart := false, laid := [("roundhouse/flag.words", laid_roundhouse_flag_words)] }
def FlagAsksSaid : Prop := flagAsksRow.holds Tryd.pinned (OpenSpec.ofChange flagAsksSpec)

/-- ITS FALSE NEIGHBOUR: 'it returns false'. Refute it at one input. -/
def flagAsksWrong : ChangeSpec := { name := "flagAsks", fn := fun _ => fun
  | [d1, d2, d3] => { results := [.lit (.bool false)], args := [d1, d2, d3] }
  | _ => none }
def FlagAsksWrongFalsely : Prop := flagAsksRow.holds Tryd.pinned (OpenSpec.ofChange flagAsksWrong)

/-- 'roundhouselaw05.FlagDrivers': WHATEVER THE INPUT: true; the input reads as it did. -/
def flagDriversSpec : ChangeSpec := { name := "flagDrivers", fn := fun _ => fun
  | [d1, d2, d3, d4, d5] => { results := [.lit (.bool true)], args := [d1, d2, d3, d4, d5] }
  | _ => none }
def flagDriversRow : OpenClaim := { program := "ytojempihchlgfaadoor", sum := "f654a9b198253fa09898609a136366f332967d780e29a51358698ddce2c38479", func := "roundhouse/roundhouselaw05.FlagDrivers", spec := "flagDrivers", named := ["roundhouse/flag.words", "roundhouse/flag.has"], apart := false, laid := [("roundhouse/flag.words", laid_roundhouse_flag_words), ("roundhouse/flag.has", laid_roundhouse_flag_has)] }
def FlagDriversSaid : Prop := flagDriversRow.holds Tryd.pinned (OpenSpec.ofChange flagDriversSpec)

/-- ITS FALSE NEIGHBOUR: 'it returns false'. Refute it at one input. -/
def flagDriversWrong : ChangeSpec := { name := "flagDrivers", fn := fun _ => fun
  | [d1, d2, d3, d4, d5] => { results := [.lit (.bool false)], args := [d1, d2, d3, d4, d5] }
  | _ => none }
def FlagDriversWrongFalsely : Prop := flagDriversRow.holds Tryd.pinned (OpenSpec.ofChange flagDriversWrong)

/-- 'roundhouselaw05.FlagChoice': WHATEVER THE INPUT: true; the input reads as it did. -/
def flagChoiceSpec : ChangeSpec := { name := "flagChoice", fn := fun _ => fun
  | [d1, d2, d3, d4, d5, d6] => { results := [.lit (.bool true)], args := [d1, d2, d3, d4, d5, d6] }
  | _ => none }
def flagChoiceRow : OpenClaim := { program := "ytojempihchlgfaadoor", sum := "f654a9b198253fa09898609a136366f332967d780e29a51358698ddce2c38479", func := "roundhouse/roundhouselaw05.FlagChoice", spec := "flagChoice", inPlace := ["internal/abi.NoEscape", "internal/bytealg.MakeNoZero"], unfollowed := true, recurses := true, named := ["roundhouse/flag.words", "roundhouse/flag.has"], apart := false, laid := [("roundhouse/flag.words", laid_roundhouse_flag_words), ("roundhouse/flag.has", laid_roundhouse_flag_has)] }
def FlagChoiceSaid : Prop := flagChoiceRow.holds Tryd.pinned (OpenSpec.ofChange flagChoiceSpec)

/-- ITS FALSE NEIGHBOUR: 'it returns false'. Refute it at one input. -/
def flagChoiceWrong : ChangeSpec := { name := "flagChoice", fn := fun _ => fun
  | [d1, d2, d3, d4, d5, d6] => { results := [.lit (.bool false)], args := [d1, d2, d3, d4, d5, d6] }
  | _ => none }
def FlagChoiceWrongFalsely : Prop := flagChoiceRow.holds Tryd.pinned (OpenSpec.ofChange flagChoiceWrong)

/-- 'roundhouselaw05.FlagWords': WHATEVER THE INPUT: true; the input reads as it did. -/
def flagWordsSpec : ChangeSpec := { name := "flagWords", fn := fun _ => fun
  | [d1, d2] => { results := [.lit (.bool true)], args := [d1, d2] }
  | _ => none }
def flagWordsRow : OpenClaim := { program := "ytojempihchlgfaadoor", sum := "f654a9b198253fa09898609a136366f332967d780e29a51358698ddce2c38479", func := "roundhouse/roundhouselaw05.FlagWords", spec := "flagWords", inPlace := ["internal/abi.NoEscape", "internal/bytealg.MakeNoZero", "internal/bytealg.CountString", "internal/bytealg.IndexByteString", "internal/bytealg.IndexString"], unfollowed := true, recurses := true, named := ["roundhouse/flag.words", "unicode/utf8.first", "unicode/utf8.acceptRanges", "internal/bytealg.MaxLen"], apart := false, laid := [("unicode/utf8.acceptRanges", laid_unicode_utf8_acceptRanges), ("roundhouse/flag.words", laid_roundhouse_flag_words), ("unicode/utf8.first", laid_unicode_utf8_first)] }
def FlagWordsSaid : Prop := flagWordsRow.holds Tryd.pinned (OpenSpec.ofChange flagWordsSpec)

/-- ITS FALSE NEIGHBOUR: 'it returns false'. Refute it at one input. -/
def flagWordsWrong : ChangeSpec := { name := "flagWords", fn := fun _ => fun
  | [d1, d2] => { results := [.lit (.bool false)], args := [d1, d2] }
  | _ => none }
def FlagWordsWrongFalsely : Prop := flagWordsRow.holds Tryd.pinned (OpenSpec.ofChange flagWordsWrong)

/-- 'roundhouselaw05.FlagBack': WHATEVER THE INPUT: true; the input reads as it did. -/
def flagBackSpec : ChangeSpec := { name := "flagBack", fn := fun _ => fun
  | [d1, d2] => { results := [.lit (.bool true)], args := [d1, d2] }
  | _ => none }
def flagBackRow : OpenClaim := { program := "ytojempihchlgfaadoor", sum := "f654a9b198253fa09898609a136366f332967d780e29a51358698ddce2c38479", func := "roundhouse/roundhouselaw05.FlagBack", spec := "flagBack", inPlace := ["internal/abi.NoEscape", "internal/bytealg.MakeNoZero", "internal/bytealg.CountString", "internal/bytealg.IndexByteString", "internal/bytealg.IndexString"], unfollowed := true, recurses := true, named := ["roundhouse/flag.words", "unicode/utf8.first", "unicode/utf8.acceptRanges", "internal/bytealg.MaxLen"], apart := false, laid := [("unicode/utf8.acceptRanges", laid_unicode_utf8_acceptRanges), ("roundhouse/flag.words", laid_roundhouse_flag_words), ("unicode/utf8.first", laid_unicode_utf8_first)] }
def FlagBackSaid : Prop := flagBackRow.holds Tryd.pinned (OpenSpec.ofChange flagBackSpec)

/-- ITS FALSE NEIGHBOUR: 'it returns false'. Refute it at one input. -/
def flagBackWrong : ChangeSpec := { name := "flagBack", fn := fun _ => fun
  | [d1, d2] => { results := [.lit (.bool false)], args := [d1, d2] }
  | _ => none }
def FlagBackWrongFalsely : Prop := flagBackRow.holds Tryd.pinned (OpenSpec.ofChange flagBackWrong)

/-- 'roundhouselaw05.FlagJoins': WHATEVER THE INPUT: true; the input reads as it did. -/
def flagJoinsSpec : ChangeSpec := { name := "flagJoins", fn := fun _ => fun
  | [d1, d2, d3, d4] => { results := [.lit (.bool true)], args := [d1, d2, d3, d4] }
  | _ => none }
def flagJoinsRow : OpenClaim := { program := "ytojempihchlgfaadoor", sum := "f654a9b198253fa09898609a136366f332967d780e29a51358698ddce2c38479", func := "roundhouse/roundhouselaw05.FlagJoins", spec := "flagJoins", inPlace := ["internal/abi.NoEscape", "internal/bytealg.MakeNoZero", "internal/bytealg.CountString", "internal/bytealg.IndexByteString", "internal/bytealg.IndexString"], unfollowed := true, recurses := true, named := ["roundhouse/flag.words", "unicode/utf8.first", "unicode/utf8.acceptRanges", "internal/bytealg.MaxLen"], apart := false, laid := [("unicode/utf8.acceptRanges", laid_unicode_utf8_acceptRanges), ("roundhouse/flag.words", laid_roundhouse_flag_words), ("unicode/utf8.first", laid_unicode_utf8_first)] }
def FlagJoinsSaid : Prop := flagJoinsRow.holds Tryd.pinned (OpenSpec.ofChange flagJoinsSpec)

/-- ITS FALSE NEIGHBOUR: 'it returns false'. Refute it at one input. -/
def flagJoinsWrong : ChangeSpec := { name := "flagJoins", fn := fun _ => fun
  | [d1, d2, d3, d4] => { results := [.lit (.bool false)], args := [d1, d2, d3, d4] }
  | _ => none }
def FlagJoinsWrongFalsely : Prop := flagJoinsRow.holds Tryd.pinned (OpenSpec.ofChange flagJoinsWrong)

/-- 'roundhouselaw05.FlagNames': WHATEVER THE INPUT: true; the input reads as it did. -/
def flagNamesSpec : ChangeSpec := { name := "flagNames", fn := fun _ => fun
  | [] => { results := [.lit (.bool true)], args := [] }
  | _ => none }
def flagNamesRow : OpenClaim := { program := "ytojempihchlgfaadoor", sum := "f654a9b198253fa09898609a136366f332967d780e29a51358698ddce2c38479", func := "roundhouse/roundhouselaw05.FlagNames", spec := "flagNames", inPlace := ["internal/abi.NoEscape", "internal/bytealg.MakeNoZero", "internal/bytealg.CountString", "internal/bytealg.IndexByteString", "internal/bytealg.IndexString"], unfollowed := true, recurses := true, named := ["roundhouse/flag.words", "roundhouse/flag.has", "unicode/utf8.first", "unicode/utf8.acceptRanges", "internal/bytealg.MaxLen"], apart := false, laid := [("unicode/utf8.acceptRanges", laid_unicode_utf8_acceptRanges), ("roundhouse/flag.words", laid_roundhouse_flag_words), ("roundhouse/flag.has", laid_roundhouse_flag_has), ("unicode/utf8.first", laid_unicode_utf8_first)] }
def FlagNamesSaid : Prop := flagNamesRow.holds Tryd.pinned (OpenSpec.ofChange flagNamesSpec)

/-- ITS FALSE NEIGHBOUR: 'it returns false'. Refute it at one input. -/
def flagNamesWrong : ChangeSpec := { name := "flagNames", fn := fun _ => fun
  | [] => { results := [.lit (.bool false)], args := [] }
  | _ => none }
def FlagNamesWrongFalsely : Prop := flagNamesRow.holds Tryd.pinned (OpenSpec.ofChange flagNamesWrong)

/- THE SECOND FORM. 'bulk': how many values and letters a reading holds, each counted each time it is reached (what is shared counts as often as it is met; a slice's spare places count too). A statement '..UptoSaid' is the law's where the arguments, and the package variables that the reading takes, are together of bulk at most 1048576: NARROWER than '..Said'. Prove '..Said' where nothing that the law and all that it calls make is longer than what came in: it says more and counts as full. Else prove '..UptoSaid'. A law counts once. -/
mutual
def uptoBulk {H : Type} : DataW H → Nat
  | .lit (.string bytes) => bytes.length + 1
  | .lit _ => 1
  | .nil => 1
  | .ptr d => uptoBulk d + 1
  | .slice elems spare => uptoBulkAll elems + uptoBulkAll spare + 1
  | .agg parts => uptoBulkAll parts + 1
  | .iface _ d => uptoBulk d + 1
  | .map entries => uptoBulkEntries entries + 1
  | .held _ => 1
def uptoBulkAll {H : Type} : List (DataW H) → Nat
  | [] => 0
  | d :: r => uptoBulk d + uptoBulkAll r
def uptoBulkEntries {H : Type} : List (Lit × DataW H) → Nat
  | [] => 0
  | x :: r => uptoBulkEntry x + uptoBulkEntries r
def uptoBulkEntry {H : Type} : Lit × DataW H → Nat
  | (.string bytes, d) => bytes.length + uptoBulk d + 1
  | (_, d) => uptoBulk d + 1
 end
def uptoSmall : (H : Type) → List (DataW H) → Bool := fun _ ds => decide (uptoBulkAll ds ≤ 1048576)
def OpenSpec.upto (s : _root_.Go.ChangeSpec) : _root_.Go.OpenSpec := { _root_.Go.OpenSpec.ofChange s with cond := some uptoSmall }

/-- 'roundhouselaw05.FlagAsks', WHERE WHAT IT READS IS OF BULK AT MOST 1048576: true; the input reads as it did. -/
def flagAsksUptoRow : OpenClaim := { program := "ytojempihchlgfaadoor", sum := "f654a9b198253fa09898609a136366f332967d780e29a51358698ddce2c38479", func := "roundhouse/roundhouselaw05.FlagAsks", spec := "flagAsks", named := ["roundhouse/flag.words"], apart := false, laid := [("roundhouse/flag.words", laid_roundhouse_flag_words)], narrowed := true }
def FlagAsksUptoSaid : Prop := flagAsksUptoRow.holds Tryd.pinned (OpenSpec.upto flagAsksSpec)

/-- 'roundhouselaw05.FlagDrivers', WHERE WHAT IT READS IS OF BULK AT MOST 1048576: true; the input reads as it did. -/
def flagDriversUptoRow : OpenClaim := { program := "ytojempihchlgfaadoor", sum := "f654a9b198253fa09898609a136366f332967d780e29a51358698ddce2c38479", func := "roundhouse/roundhouselaw05.FlagDrivers", spec := "flagDrivers", named := ["roundhouse/flag.words", "roundhouse/flag.has"], apart := false, laid := [("roundhouse/flag.words", laid_roundhouse_flag_words), ("roundhouse/flag.has", laid_roundhouse_flag_has)], narrowed := true }
def FlagDriversUptoSaid : Prop := flagDriversUptoRow.holds Tryd.pinned (OpenSpec.upto flagDriversSpec)

/-- 'roundhouselaw05.FlagChoice', WHERE WHAT IT READS IS OF BULK AT MOST 1048576: true; the input reads as it did. -/
def flagChoiceUptoRow : OpenClaim := { program := "ytojempihchlgfaadoor", sum := "f654a9b198253fa09898609a136366f332967d780e29a51358698ddce2c38479", func := "roundhouse/roundhouselaw05.FlagChoice", spec := "flagChoice", inPlace := ["internal/abi.NoEscape", "internal/bytealg.MakeNoZero"], unfollowed := true, recurses := true, named := ["roundhouse/flag.words", "roundhouse/flag.has"], apart := false, laid := [("roundhouse/flag.words", laid_roundhouse_flag_words), ("roundhouse/flag.has", laid_roundhouse_flag_has)], narrowed := true }
def FlagChoiceUptoSaid : Prop := flagChoiceUptoRow.holds Tryd.pinned (OpenSpec.upto flagChoiceSpec)

/-- 'roundhouselaw05.FlagWords', WHERE WHAT IT READS IS OF BULK AT MOST 1048576: true; the input reads as it did. -/
def flagWordsUptoRow : OpenClaim := { program := "ytojempihchlgfaadoor", sum := "f654a9b198253fa09898609a136366f332967d780e29a51358698ddce2c38479", func := "roundhouse/roundhouselaw05.FlagWords", spec := "flagWords", inPlace := ["internal/abi.NoEscape", "internal/bytealg.MakeNoZero", "internal/bytealg.CountString", "internal/bytealg.IndexByteString", "internal/bytealg.IndexString"], unfollowed := true, recurses := true, named := ["roundhouse/flag.words", "unicode/utf8.first", "unicode/utf8.acceptRanges", "internal/bytealg.MaxLen"], apart := false, laid := [("unicode/utf8.acceptRanges", laid_unicode_utf8_acceptRanges), ("roundhouse/flag.words", laid_roundhouse_flag_words), ("unicode/utf8.first", laid_unicode_utf8_first)], narrowed := true }
def FlagWordsUptoSaid : Prop := flagWordsUptoRow.holds Tryd.pinned (OpenSpec.upto flagWordsSpec)

/-- 'roundhouselaw05.FlagBack', WHERE WHAT IT READS IS OF BULK AT MOST 1048576: true; the input reads as it did. -/
def flagBackUptoRow : OpenClaim := { program := "ytojempihchlgfaadoor", sum := "f654a9b198253fa09898609a136366f332967d780e29a51358698ddce2c38479", func := "roundhouse/roundhouselaw05.FlagBack", spec := "flagBack", inPlace := ["internal/abi.NoEscape", "internal/bytealg.MakeNoZero", "internal/bytealg.CountString", "internal/bytealg.IndexByteString", "internal/bytealg.IndexString"], unfollowed := true, recurses := true, named := ["roundhouse/flag.words", "unicode/utf8.first", "unicode/utf8.acceptRanges", "internal/bytealg.MaxLen"], apart := false, laid := [("unicode/utf8.acceptRanges", laid_unicode_utf8_acceptRanges), ("roundhouse/flag.words", laid_roundhouse_flag_words), ("unicode/utf8.first", laid_unicode_utf8_first)], narrowed := true }
def FlagBackUptoSaid : Prop := flagBackUptoRow.holds Tryd.pinned (OpenSpec.upto flagBackSpec)

/-- 'roundhouselaw05.FlagJoins', WHERE WHAT IT READS IS OF BULK AT MOST 1048576: true; the input reads as it did. -/
def flagJoinsUptoRow : OpenClaim := { program := "ytojempihchlgfaadoor", sum := "f654a9b198253fa09898609a136366f332967d780e29a51358698ddce2c38479", func := "roundhouse/roundhouselaw05.FlagJoins", spec := "flagJoins", inPlace := ["internal/abi.NoEscape", "internal/bytealg.MakeNoZero", "internal/bytealg.CountString", "internal/bytealg.IndexByteString", "internal/bytealg.IndexString"], unfollowed := true, recurses := true, named := ["roundhouse/flag.words", "unicode/utf8.first", "unicode/utf8.acceptRanges", "internal/bytealg.MaxLen"], apart := false, laid := [("unicode/utf8.acceptRanges", laid_unicode_utf8_acceptRanges), ("roundhouse/flag.words", laid_roundhouse_flag_words), ("unicode/utf8.first", laid_unicode_utf8_first)], narrowed := true }
def FlagJoinsUptoSaid : Prop := flagJoinsUptoRow.holds Tryd.pinned (OpenSpec.upto flagJoinsSpec)

/-- 'roundhouselaw05.FlagNames', WHERE WHAT IT READS IS OF BULK AT MOST 1048576: true; the input reads as it did. -/
def flagNamesUptoRow : OpenClaim := { program := "ytojempihchlgfaadoor", sum := "f654a9b198253fa09898609a136366f332967d780e29a51358698ddce2c38479", func := "roundhouse/roundhouselaw05.FlagNames", spec := "flagNames", inPlace := ["internal/abi.NoEscape", "internal/bytealg.MakeNoZero", "internal/bytealg.CountString", "internal/bytealg.IndexByteString", "internal/bytealg.IndexString"], unfollowed := true, recurses := true, named := ["roundhouse/flag.words", "roundhouse/flag.has", "unicode/utf8.first", "unicode/utf8.acceptRanges", "internal/bytealg.MaxLen"], apart := false, laid := [("unicode/utf8.acceptRanges", laid_unicode_utf8_acceptRanges), ("roundhouse/flag.words", laid_roundhouse_flag_words), ("roundhouse/flag.has", laid_roundhouse_flag_has), ("unicode/utf8.first", laid_unicode_utf8_first)], narrowed := true }
def FlagNamesUptoSaid : Prop := flagNamesUptoRow.holds Tryd.pinned (OpenSpec.upto flagNamesSpec)

end Rows
end Go.Proofs.YtojempihchlgfaaDoor
