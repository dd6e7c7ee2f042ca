/-
  No cell of these rows narrows 'for every input' (looked for: loops, veiled, ifaces, maps, wideKeys, modest, calm, conditions, laid).
  DERIVED. THE GIVEN ROWS OF THIS SEAT. 6 by the template 'for every input the law returns true; each argument reads behind the call as it read before'; 0 by the template 'total and deterministic' (their statements: YtllolfbjmpaamaaTotals.lean).
  GIVEN WITH THE SEED: the statements are not yours to turn. If you find one false, say at which input.
  Laid BY PROGRAM, IN A SANDBOX (cutbox-rows.mjs): the forced cells as the released guide's own fill.sh prints them over the translation 8ce1997e92278d60… (all of the seat's roots in one cut). By AI agents, Wed Nov 11 2026. No macro, syntax, notation, axiom, sorry.
-/
import Derived.Test.YtllolfbjmpaamaaChecked
import GoSem.Claim
import GoSem.ClaimJoined
import GoSem.ClaimMapViews
import Derived.JoinedTies
import Derived.KernelRfl
namespace Go.Proofs.Ytllolfbjmpaamaa
/- THE CELL 'sum', in the pinned program and in every row, IS THE sha256 OF THE DUMP (.gsa) THAT YtllolfbjmpaamaaProg.lean LOADS. Nothing in Lean hashes anything: it is a label: what it is worth is what the hold of that sum in a sandbox is worth. -/
noncomputable def Try.pinned : Pinned := { name := "ytllolfbjmpaamaa", sum := "8ce1997e92278d60104e194d3aad9deeb77135f9bdb3c1f47ee14c1f80cfb364", checked := Try.checked }
namespace Rows
def none {H : Type} : Left H := { results := [], args := [] }

/-- 'roundhouselaw18.EvmapHits': WHATEVER THE INPUT: true; the input reads as it did. -/
def evmapHitsSpec : ChangeSpec := { name := "evmapHits", fn := fun _ => fun
  | [d1, d2, d3] => { results := [.lit (.bool true)], args := [d1, d2, d3] }
  | _ => none }
def evmapHitsRow : OpenClaim := { program := "ytllolfbjmpaamaa", sum := "8ce1997e92278d60104e194d3aad9deeb77135f9bdb3c1f47ee14c1f80cfb364", func := "roundhouse/roundhouselaw18.EvmapHits", spec := "evmapHits", unfollowed := true, recurses := true, apart := false }
def EvmapHitsSaid : Prop := evmapHitsRow.holds Try.pinned (OpenSpec.ofChange evmapHitsSpec)

/-- ITS FALSE NEIGHBOUR: 'it returns false'. Refute it at one input. -/
def evmapHitsWrong : ChangeSpec := { name := "evmapHits", fn := fun _ => fun
  | [d1, d2, d3] => { results := [.lit (.bool false)], args := [d1, d2, d3] }
  | _ => none }
def EvmapHitsWrongFalsely : Prop := evmapHitsRow.holds Try.pinned (OpenSpec.ofChange evmapHitsWrong)

/-- 'roundhouselaw18.EvmapTraces': WHATEVER THE INPUT: true; the input reads as it did. -/
def evmapTracesSpec : ChangeSpec := { name := "evmapTraces", fn := fun _ => fun
  | [d1, d2] => { results := [.lit (.bool true)], args := [d1, d2] }
  | _ => none }
def evmapTracesRow : OpenClaim := { program := "ytllolfbjmpaamaa", sum := "8ce1997e92278d60104e194d3aad9deeb77135f9bdb3c1f47ee14c1f80cfb364", func := "roundhouse/roundhouselaw18.EvmapTraces", spec := "evmapTraces", unfollowed := true, recurses := true, apart := false }
def EvmapTracesSaid : Prop := evmapTracesRow.holds Try.pinned (OpenSpec.ofChange evmapTracesSpec)

/-- ITS FALSE NEIGHBOUR: 'it returns false'. Refute it at one input. -/
def evmapTracesWrong : ChangeSpec := { name := "evmapTraces", fn := fun _ => fun
  | [d1, d2] => { results := [.lit (.bool false)], args := [d1, d2] }
  | _ => none }
def EvmapTracesWrongFalsely : Prop := evmapTracesRow.holds Try.pinned (OpenSpec.ofChange evmapTracesWrong)

/-- 'roundhouselaw18.EvmapPlays': WHATEVER THE INPUT: true; the input reads as it did. -/
def evmapPlaysSpec : ChangeSpec := { name := "evmapPlays", fn := fun _ => fun
  | [d] => { results := [.lit (.bool true)], args := [d] }
  | _ => none }
def evmapPlaysRow : OpenClaim := { program := "ytllolfbjmpaamaa", sum := "8ce1997e92278d60104e194d3aad9deeb77135f9bdb3c1f47ee14c1f80cfb364", func := "roundhouse/roundhouselaw18.EvmapPlays", spec := "evmapPlays", unfollowed := true, recurses := true, apart := false }
def EvmapPlaysSaid : Prop := evmapPlaysRow.holds Try.pinned (OpenSpec.ofChange evmapPlaysSpec)

/-- ITS FALSE NEIGHBOUR: 'it returns false'. Refute it at one input. -/
def evmapPlaysWrong : ChangeSpec := { name := "evmapPlays", fn := fun _ => fun
  | [d] => { results := [.lit (.bool false)], args := [d] }
  | _ => none }
def EvmapPlaysWrongFalsely : Prop := evmapPlaysRow.holds Try.pinned (OpenSpec.ofChange evmapPlaysWrong)

/-- 'roundhouselaw18.EvmapNames': WHATEVER THE INPUT: true; the input reads as it did. -/
def evmapNamesSpec : ChangeSpec := { name := "evmapNames", fn := fun _ => fun
  | [] => { results := [.lit (.bool true)], args := [] }
  | _ => none }
def evmapNamesRow : OpenClaim := { program := "ytllolfbjmpaamaa", sum := "8ce1997e92278d60104e194d3aad9deeb77135f9bdb3c1f47ee14c1f80cfb364", func := "roundhouse/roundhouselaw18.EvmapNames", spec := "evmapNames", unfollowed := true, recurses := true, apart := false }
def EvmapNamesSaid : Prop := evmapNamesRow.holds Try.pinned (OpenSpec.ofChange evmapNamesSpec)

/-- ITS FALSE NEIGHBOUR: 'it returns false'. Refute it at one input. -/
def evmapNamesWrong : ChangeSpec := { name := "evmapNames", fn := fun _ => fun
  | [] => { results := [.lit (.bool false)], args := [] }
  | _ => none }
def EvmapNamesWrongFalsely : Prop := evmapNamesRow.holds Try.pinned (OpenSpec.ofChange evmapNamesWrong)

/-- 'roundhouselaw18.EvmapCounts': WHATEVER THE INPUT: true; the input reads as it did. -/
def evmapCountsSpec : ChangeSpec := { name := "evmapCounts", fn := fun _ => fun
  | [d] => { results := [.lit (.bool true)], args := [d] }
  | _ => none }
def evmapCountsRow : OpenClaim := { program := "ytllolfbjmpaamaa", sum := "8ce1997e92278d60104e194d3aad9deeb77135f9bdb3c1f47ee14c1f80cfb364", func := "roundhouse/roundhouselaw18.EvmapCounts", spec := "evmapCounts", unfollowed := true, recurses := true, apart := false }
def EvmapCountsSaid : Prop := evmapCountsRow.holds Try.pinned (OpenSpec.ofChange evmapCountsSpec)

/-- ITS FALSE NEIGHBOUR: 'it returns false'. Refute it at one input. -/
def evmapCountsWrong : ChangeSpec := { name := "evmapCounts", fn := fun _ => fun
  | [d] => { results := [.lit (.bool false)], args := [d] }
  | _ => none }
def EvmapCountsWrongFalsely : Prop := evmapCountsRow.holds Try.pinned (OpenSpec.ofChange evmapCountsWrong)

/-- 'roundhouselaw18.EvmapCuts': WHATEVER THE INPUT: true; the input reads as it did. -/
def evmapCutsSpec : ChangeSpec := { name := "evmapCuts", fn := fun _ => fun
  | [d1, d2] => { results := [.lit (.bool true)], args := [d1, d2] }
  | _ => none }
def evmapCutsRow : OpenClaim := { program := "ytllolfbjmpaamaa", sum := "8ce1997e92278d60104e194d3aad9deeb77135f9bdb3c1f47ee14c1f80cfb364", func := "roundhouse/roundhouselaw18.EvmapCuts", spec := "evmapCuts", unfollowed := true, recurses := true, apart := false }
def EvmapCutsSaid : Prop := evmapCutsRow.holds Try.pinned (OpenSpec.ofChange evmapCutsSpec)

/-- ITS FALSE NEIGHBOUR: 'it returns false'. Refute it at one input. -/
def evmapCutsWrong : ChangeSpec := { name := "evmapCuts", fn := fun _ => fun
  | [d1, d2] => { results := [.lit (.bool false)], args := [d1, d2] }
  | _ => none }
def EvmapCutsWrongFalsely : Prop := evmapCutsRow.holds Try.pinned (OpenSpec.ofChange evmapCutsWrong)

/- THE SECOND FORM. 'bulk': how many values and letters a reading holds, each counted each time it is reached (what is shared counts as often as it is met; a slice's spare places count too). A statement '..UptoSaid' is the law's where the arguments, and the package variables that the reading takes, are together of bulk at most 1048576: NARROWER than '..Said'. Prove '..Said' where nothing that the law and all that it calls make is longer than what came in: it says more and counts as full. Else prove '..UptoSaid'. A law counts once. -/
mutual
def uptoBulk {H : Type} : DataW H → Nat
  | .lit (.string bytes) => bytes.length + 1
  | .lit _ => 1
  | .nil => 1
  | .ptr d => uptoBulk d + 1
  | .slice elems spare => uptoBulkAll elems + uptoBulkAll spare + 1
  | .agg parts => uptoBulkAll parts + 1
  | .iface _ d => uptoBulk d + 1
  | .map entries => uptoBulkEntries entries + 1
  | .held _ => 1
def uptoBulkAll {H : Type} : List (DataW H) → Nat
  | [] => 0
  | d :: r => uptoBulk d + uptoBulkAll r
def uptoBulkEntries {H : Type} : List (Lit × DataW H) → Nat
  | [] => 0
  | x :: r => uptoBulkEntry x + uptoBulkEntries r
def uptoBulkEntry {H : Type} : Lit × DataW H → Nat
  | (.string bytes, d) => bytes.length + uptoBulk d + 1
  | (_, d) => uptoBulk d + 1
 end
def uptoSmall : (H : Type) → List (DataW H) → Bool := fun _ ds => decide (uptoBulkAll ds ≤ 1048576)
def OpenSpec.upto (s : _root_.Go.ChangeSpec) : _root_.Go.OpenSpec := { _root_.Go.OpenSpec.ofChange s with cond := some uptoSmall }

/-- 'roundhouselaw18.EvmapHits', WHERE WHAT IT READS IS OF BULK AT MOST 1048576: true; the input reads as it did. -/
def evmapHitsUptoRow : OpenClaim := { program := "ytllolfbjmpaamaa", sum := "8ce1997e92278d60104e194d3aad9deeb77135f9bdb3c1f47ee14c1f80cfb364", func := "roundhouse/roundhouselaw18.EvmapHits", spec := "evmapHits", unfollowed := true, recurses := true, apart := false, narrowed := true }
def EvmapHitsUptoSaid : Prop := evmapHitsUptoRow.holds Try.pinned (OpenSpec.upto evmapHitsSpec)

/-- 'roundhouselaw18.EvmapTraces', WHERE WHAT IT READS IS OF BULK AT MOST 1048576: true; the input reads as it did. -/
def evmapTracesUptoRow : OpenClaim := { program := "ytllolfbjmpaamaa", sum := "8ce1997e92278d60104e194d3aad9deeb77135f9bdb3c1f47ee14c1f80cfb364", func := "roundhouse/roundhouselaw18.EvmapTraces", spec := "evmapTraces", unfollowed := true, recurses := true, apart := false, narrowed := true }
def EvmapTracesUptoSaid : Prop := evmapTracesUptoRow.holds Try.pinned (OpenSpec.upto evmapTracesSpec)

/-- 'roundhouselaw18.EvmapPlays', WHERE WHAT IT READS IS OF BULK AT MOST 1048576: true; the input reads as it did. -/
def evmapPlaysUptoRow : OpenClaim := { program := "ytllolfbjmpaamaa", sum := "8ce1997e92278d60104e194d3aad9deeb77135f9bdb3c1f47ee14c1f80cfb364", func := "roundhouse/roundhouselaw18.EvmapPlays", spec := "evmapPlays", unfollowed := true, recurses := true, apart := false, narrowed := true }
def EvmapPlaysUptoSaid : Prop := evmapPlaysUptoRow.holds Try.pinned (OpenSpec.upto evmapPlaysSpec)

/-- 'roundhouselaw18.EvmapNames', WHERE WHAT IT READS IS OF BULK AT MOST 1048576: true; the input reads as it did. -/
def evmapNamesUptoRow : OpenClaim := { program := "ytllolfbjmpaamaa", sum := "8ce1997e92278d60104e194d3aad9deeb77135f9bdb3c1f47ee14c1f80cfb364", func := "roundhouse/roundhouselaw18.EvmapNames", spec := "evmapNames", unfollowed := true, recurses := true, apart := false, narrowed := true }
def EvmapNamesUptoSaid : Prop := evmapNamesUptoRow.holds Try.pinned (OpenSpec.upto evmapNamesSpec)

/-- 'roundhouselaw18.EvmapCounts', WHERE WHAT IT READS IS OF BULK AT MOST 1048576: true; the input reads as it did. -/
def evmapCountsUptoRow : OpenClaim := { program := "ytllolfbjmpaamaa", sum := "8ce1997e92278d60104e194d3aad9deeb77135f9bdb3c1f47ee14c1f80cfb364", func := "roundhouse/roundhouselaw18.EvmapCounts", spec := "evmapCounts", unfollowed := true, recurses := true, apart := false, narrowed := true }
def EvmapCountsUptoSaid : Prop := evmapCountsUptoRow.holds Try.pinned (OpenSpec.upto evmapCountsSpec)

/-- 'roundhouselaw18.EvmapCuts', WHERE WHAT IT READS IS OF BULK AT MOST 1048576: true; the input reads as it did. -/
def evmapCutsUptoRow : OpenClaim := { program := "ytllolfbjmpaamaa", sum := "8ce1997e92278d60104e194d3aad9deeb77135f9bdb3c1f47ee14c1f80cfb364", func := "roundhouse/roundhouselaw18.EvmapCuts", spec := "evmapCuts", unfollowed := true, recurses := true, apart := false, narrowed := true }
def EvmapCutsUptoSaid : Prop := evmapCutsUptoRow.holds Try.pinned (OpenSpec.upto evmapCutsSpec)

end Rows
end Go.Proofs.Ytllolfbjmpaamaa
