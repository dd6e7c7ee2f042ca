/-
  No cell of these rows narrows 'for every input' (looked for: loops, veiled, ifaces, maps, wideKeys, modest, calm, conditions, laid).
  DERIVED. THE GIVEN ROWS OF THIS SEAT. 6 by the template 'for every input the law returns true; each argument reads behind the call as it read before'; 0 by the template 'total and deterministic' (their statements: YtfjjmmaddcofkaaTotals.lean).
  GIVEN WITH THE SEED: the statements are not yours to turn. If you find one false, say at which input.
  Laid BY PROGRAM, IN A SANDBOX (cutbox-rows.mjs): the forced cells as the released guide's own fill.sh prints them over the translation caad51845fd92eea… (all of the seat's roots in one cut). By AI agents, Wed Nov 11 2026. No macro, syntax, notation, axiom, sorry.
-/
import Derived.Test.YtfjjmmaddcofkaaChecked
import GoSem.Claim
import GoSem.ClaimJoined
import GoSem.ClaimMapViews
import Derived.JoinedTies
import Derived.KernelRfl
namespace Go.Proofs.Ytfjjmmaddcofkaa
/- THE CELL 'sum', in the pinned program and in every row, IS THE sha256 OF THE DUMP (.gsa) THAT YtfjjmmaddcofkaaProg.lean LOADS. Nothing in Lean hashes anything: it is a label: what it is worth is what the hold of that sum in a sandbox is worth. -/
noncomputable def Try.pinned : Pinned := { name := "ytfjjmmaddcofkaa", sum := "caad51845fd92eeafc781fa45893e98b79e65abdd9cefafe9727bd5bcf78582e", checked := Try.checked }
namespace Rows
def none {H : Type} : Left H := { results := [], args := [] }

/-- 'roundhouselaw02.TicksDeadlines': WHATEVER THE INPUT: true; the input reads as it did. -/
def ticksDeadlinesSpec : ChangeSpec := { name := "ticksDeadlines", fn := fun _ => fun
  | [d1, d2, d3, d4] => { results := [.lit (.bool true)], args := [d1, d2, d3, d4] }
  | _ => none }
def ticksDeadlinesRow : OpenClaim := { program := "ytfjjmmaddcofkaa", sum := "caad51845fd92eeafc781fa45893e98b79e65abdd9cefafe9727bd5bcf78582e", func := "roundhouse/roundhouselaw02.TicksDeadlines", spec := "ticksDeadlines", apart := false }
def TicksDeadlinesSaid : Prop := ticksDeadlinesRow.holds Try.pinned (OpenSpec.ofChange ticksDeadlinesSpec)

/-- ITS FALSE NEIGHBOUR: 'it returns false'. Refute it at one input. -/
def ticksDeadlinesWrong : ChangeSpec := { name := "ticksDeadlines", fn := fun _ => fun
  | [d1, d2, d3, d4] => { results := [.lit (.bool false)], args := [d1, d2, d3, d4] }
  | _ => none }
def TicksDeadlinesWrongFalsely : Prop := ticksDeadlinesRow.holds Try.pinned (OpenSpec.ofChange ticksDeadlinesWrong)

/-- 'roundhouselaw02.TicksNumbers': WHATEVER THE INPUT: true; the input reads as it did. -/
def ticksNumbersSpec : ChangeSpec := { name := "ticksNumbers", fn := fun _ => fun
  | [d1, d2, d3, d4, d5] => { results := [.lit (.bool true)], args := [d1, d2, d3, d4, d5] }
  | _ => none }
def ticksNumbersRow : OpenClaim := { program := "ytfjjmmaddcofkaa", sum := "caad51845fd92eeafc781fa45893e98b79e65abdd9cefafe9727bd5bcf78582e", func := "roundhouse/roundhouselaw02.TicksNumbers", spec := "ticksNumbers", apart := false }
def TicksNumbersSaid : Prop := ticksNumbersRow.holds Try.pinned (OpenSpec.ofChange ticksNumbersSpec)

/-- ITS FALSE NEIGHBOUR: 'it returns false'. Refute it at one input. -/
def ticksNumbersWrong : ChangeSpec := { name := "ticksNumbers", fn := fun _ => fun
  | [d1, d2, d3, d4, d5] => { results := [.lit (.bool false)], args := [d1, d2, d3, d4, d5] }
  | _ => none }
def TicksNumbersWrongFalsely : Prop := ticksNumbersRow.holds Try.pinned (OpenSpec.ofChange ticksNumbersWrong)

/-- 'roundhouselaw02.TicksOrder': WHATEVER THE INPUT: true; the input reads as it did. -/
def ticksOrderSpec : ChangeSpec := { name := "ticksOrder", fn := fun _ => fun
  | [d1, d2, d3, d4] => { results := [.lit (.bool true)], args := [d1, d2, d3, d4] }
  | _ => none }
def ticksOrderRow : OpenClaim := { program := "ytfjjmmaddcofkaa", sum := "caad51845fd92eeafc781fa45893e98b79e65abdd9cefafe9727bd5bcf78582e", func := "roundhouse/roundhouselaw02.TicksOrder", spec := "ticksOrder", apart := false }
def TicksOrderSaid : Prop := ticksOrderRow.holds Try.pinned (OpenSpec.ofChange ticksOrderSpec)

/-- ITS FALSE NEIGHBOUR: 'it returns false'. Refute it at one input. -/
def ticksOrderWrong : ChangeSpec := { name := "ticksOrder", fn := fun _ => fun
  | [d1, d2, d3, d4] => { results := [.lit (.bool false)], args := [d1, d2, d3, d4] }
  | _ => none }
def TicksOrderWrongFalsely : Prop := ticksOrderRow.holds Try.pinned (OpenSpec.ofChange ticksOrderWrong)

/-- 'roundhouselaw02.TicksBack': WHATEVER THE INPUT: true; the input reads as it did. -/
def ticksBackSpec : ChangeSpec := { name := "ticksBack", fn := fun _ => fun
  | [d1, d2, d3] => { results := [.lit (.bool true)], args := [d1, d2, d3] }
  | _ => none }
def ticksBackRow : OpenClaim := { program := "ytfjjmmaddcofkaa", sum := "caad51845fd92eeafc781fa45893e98b79e65abdd9cefafe9727bd5bcf78582e", func := "roundhouse/roundhouselaw02.TicksBack", spec := "ticksBack", apart := false }
def TicksBackSaid : Prop := ticksBackRow.holds Try.pinned (OpenSpec.ofChange ticksBackSpec)

/-- ITS FALSE NEIGHBOUR: 'it returns false'. Refute it at one input. -/
def ticksBackWrong : ChangeSpec := { name := "ticksBack", fn := fun _ => fun
  | [d1, d2, d3] => { results := [.lit (.bool false)], args := [d1, d2, d3] }
  | _ => none }
def TicksBackWrongFalsely : Prop := ticksBackRow.holds Try.pinned (OpenSpec.ofChange ticksBackWrong)

/-- 'roundhouselaw02.TicksNames': WHATEVER THE INPUT: true; the input reads as it did. -/
def ticksNamesSpec : ChangeSpec := { name := "ticksNames", fn := fun _ => fun
  | [] => { results := [.lit (.bool true)], args := [] }
  | _ => none }
def ticksNamesRow : OpenClaim := { program := "ytfjjmmaddcofkaa", sum := "caad51845fd92eeafc781fa45893e98b79e65abdd9cefafe9727bd5bcf78582e", func := "roundhouse/roundhouselaw02.TicksNames", spec := "ticksNames", apart := false }
def TicksNamesSaid : Prop := ticksNamesRow.holds Try.pinned (OpenSpec.ofChange ticksNamesSpec)

/-- ITS FALSE NEIGHBOUR: 'it returns false'. Refute it at one input. -/
def ticksNamesWrong : ChangeSpec := { name := "ticksNames", fn := fun _ => fun
  | [] => { results := [.lit (.bool false)], args := [] }
  | _ => none }
def TicksNamesWrongFalsely : Prop := ticksNamesRow.holds Try.pinned (OpenSpec.ofChange ticksNamesWrong)

/-- 'roundhouselaw02.TicksSeconds': WHATEVER THE INPUT: true; the input reads as it did. -/
def ticksSecondsSpec : ChangeSpec := { name := "ticksSeconds", fn := fun _ => fun
  | [d1, d2, d3] => { results := [.lit (.bool true)], args := [d1, d2, d3] }
  | _ => none }
def ticksSecondsRow : OpenClaim := { program := "ytfjjmmaddcofkaa", sum := "caad51845fd92eeafc781fa45893e98b79e65abdd9cefafe9727bd5bcf78582e", func := "roundhouse/roundhouselaw02.TicksSeconds", spec := "ticksSeconds", inPlace := ["math.Float64frombits", "math.archCeil", "math.archFloor", "math.Float64bits", "math.archTrunc"], apart := false }
def TicksSecondsSaid : Prop := ticksSecondsRow.holds Try.pinned (OpenSpec.ofChange ticksSecondsSpec)

/-- ITS FALSE NEIGHBOUR: 'it returns false'. Refute it at one input. -/
def ticksSecondsWrong : ChangeSpec := { name := "ticksSeconds", fn := fun _ => fun
  | [d1, d2, d3] => { results := [.lit (.bool false)], args := [d1, d2, d3] }
  | _ => none }
def TicksSecondsWrongFalsely : Prop := ticksSecondsRow.holds Try.pinned (OpenSpec.ofChange ticksSecondsWrong)

/- THE SECOND FORM. 'bulk': how many values and letters a reading holds, each counted each time it is reached (what is shared counts as often as it is met; a slice's spare places count too). A statement '..UptoSaid' is the law's where the arguments, and the package variables that the reading takes, are together of bulk at most 1048576: NARROWER than '..Said'. Prove '..Said' where nothing that the law and all that it calls make is longer than what came in: it says more and counts as full. Else prove '..UptoSaid'. A law counts once. -/
mutual
def uptoBulk {H : Type} : DataW H → Nat
  | .lit (.string bytes) => bytes.length + 1
  | .lit _ => 1
  | .nil => 1
  | .ptr d => uptoBulk d + 1
  | .slice elems spare => uptoBulkAll elems + uptoBulkAll spare + 1
  | .agg parts => uptoBulkAll parts + 1
  | .iface _ d => uptoBulk d + 1
  | .map entries => uptoBulkEntries entries + 1
  | .held _ => 1
def uptoBulkAll {H : Type} : List (DataW H) → Nat
  | [] => 0
  | d :: r => uptoBulk d + uptoBulkAll r
def uptoBulkEntries {H : Type} : List (Lit × DataW H) → Nat
  | [] => 0
  | x :: r => uptoBulkEntry x + uptoBulkEntries r
def uptoBulkEntry {H : Type} : Lit × DataW H → Nat
  | (.string bytes, d) => bytes.length + uptoBulk d + 1
  | (_, d) => uptoBulk d + 1
 end
def uptoSmall : (H : Type) → List (DataW H) → Bool := fun _ ds => decide (uptoBulkAll ds ≤ 1048576)
def OpenSpec.upto (s : _root_.Go.ChangeSpec) : _root_.Go.OpenSpec := { _root_.Go.OpenSpec.ofChange s with cond := some uptoSmall }

/-- 'roundhouselaw02.TicksDeadlines', WHERE WHAT IT READS IS OF BULK AT MOST 1048576: true; the input reads as it did. -/
def ticksDeadlinesUptoRow : OpenClaim := { program := "ytfjjmmaddcofkaa", sum := "caad51845fd92eeafc781fa45893e98b79e65abdd9cefafe9727bd5bcf78582e", func := "roundhouse/roundhouselaw02.TicksDeadlines", spec := "ticksDeadlines", apart := false, narrowed := true }
def TicksDeadlinesUptoSaid : Prop := ticksDeadlinesUptoRow.holds Try.pinned (OpenSpec.upto ticksDeadlinesSpec)

/-- 'roundhouselaw02.TicksNumbers', WHERE WHAT IT READS IS OF BULK AT MOST 1048576: true; the input reads as it did. -/
def ticksNumbersUptoRow : OpenClaim := { program := "ytfjjmmaddcofkaa", sum := "caad51845fd92eeafc781fa45893e98b79e65abdd9cefafe9727bd5bcf78582e", func := "roundhouse/roundhouselaw02.TicksNumbers", spec := "ticksNumbers", apart := false, narrowed := true }
def TicksNumbersUptoSaid : Prop := ticksNumbersUptoRow.holds Try.pinned (OpenSpec.upto ticksNumbersSpec)

/-- 'roundhouselaw02.TicksOrder', WHERE WHAT IT READS IS OF BULK AT MOST 1048576: true; the input reads as it did. -/
def ticksOrderUptoRow : OpenClaim := { program := "ytfjjmmaddcofkaa", sum := "caad51845fd92eeafc781fa45893e98b79e65abdd9cefafe9727bd5bcf78582e", func := "roundhouse/roundhouselaw02.TicksOrder", spec := "ticksOrder", apart := false, narrowed := true }
def TicksOrderUptoSaid : Prop := ticksOrderUptoRow.holds Try.pinned (OpenSpec.upto ticksOrderSpec)

/-- 'roundhouselaw02.TicksBack', WHERE WHAT IT READS IS OF BULK AT MOST 1048576: true; the input reads as it did. -/
def ticksBackUptoRow : OpenClaim := { program := "ytfjjmmaddcofkaa", sum := "caad51845fd92eeafc781fa45893e98b79e65abdd9cefafe9727bd5bcf78582e", func := "roundhouse/roundhouselaw02.TicksBack", spec := "ticksBack", apart := false, narrowed := true }
def TicksBackUptoSaid : Prop := ticksBackUptoRow.holds Try.pinned (OpenSpec.upto ticksBackSpec)

/-- 'roundhouselaw02.TicksNames', WHERE WHAT IT READS IS OF BULK AT MOST 1048576: true; the input reads as it did. -/
def ticksNamesUptoRow : OpenClaim := { program := "ytfjjmmaddcofkaa", sum := "caad51845fd92eeafc781fa45893e98b79e65abdd9cefafe9727bd5bcf78582e", func := "roundhouse/roundhouselaw02.TicksNames", spec := "ticksNames", apart := false, narrowed := true }
def TicksNamesUptoSaid : Prop := ticksNamesUptoRow.holds Try.pinned (OpenSpec.upto ticksNamesSpec)

/-- 'roundhouselaw02.TicksSeconds', WHERE WHAT IT READS IS OF BULK AT MOST 1048576: true; the input reads as it did. -/
def ticksSecondsUptoRow : OpenClaim := { program := "ytfjjmmaddcofkaa", sum := "caad51845fd92eeafc781fa45893e98b79e65abdd9cefafe9727bd5bcf78582e", func := "roundhouse/roundhouselaw02.TicksSeconds", spec := "ticksSeconds", inPlace := ["math.Float64frombits", "math.archCeil", "math.archFloor", "math.Float64bits", "math.archTrunc"], apart := false, narrowed := true }
def TicksSecondsUptoSaid : Prop := ticksSecondsUptoRow.holds Try.pinned (OpenSpec.upto ticksSecondsSpec)

end Rows
end Go.Proofs.Ytfjjmmaddcofkaa
