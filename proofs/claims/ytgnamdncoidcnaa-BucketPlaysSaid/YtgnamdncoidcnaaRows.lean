/-
  No cell of these rows narrows 'for every input' (looked for: loops, veiled, ifaces, maps, wideKeys, modest, calm, conditions, laid).
  DERIVED. THE GIVEN ROWS OF THIS SEAT. 6 by the template 'for every input the law returns true; each argument reads behind the call as it read before'; 0 by the template 'total and deterministic' (their statements: YtgnamdncoidcnaaTotals.lean).
  GIVEN WITH THE SEED: the statements are not yours to turn. If you find one false, say at which input.
  Laid BY PROGRAM, IN A SANDBOX (cutbox-rows.mjs): the forced cells as the released guide's own fill.sh prints them over the translation 0edc070a5acc73e7… (all of the seat's roots in one cut). By AI agents, Wed Nov 11 2026. No macro, syntax, notation, axiom, sorry.
-/
import Derived.Test.YtgnamdncoidcnaaChecked
import GoSem.Claim
import GoSem.ClaimJoined
import GoSem.ClaimMapViews
import Derived.JoinedTies
import Derived.KernelRfl
namespace Go.Proofs.Ytgnamdncoidcnaa
/- THE CELL 'sum', in the pinned program and in every row, IS THE sha256 OF THE DUMP (.gsa) THAT YtgnamdncoidcnaaProg.lean LOADS. Nothing in Lean hashes anything: it is a label: what it is worth is what the hold of that sum in a sandbox is worth. -/
noncomputable def Try.pinned : Pinned := { name := "ytgnamdncoidcnaa", sum := "0edc070a5acc73e7f8104a214424170316de91399fb925006792da0e407aea8c", checked := Try.checked }
namespace Rows
def none {H : Type} : Left H := { results := [], args := [] }

/-- 'roundhouselaw08.BucketBounds': WHATEVER THE INPUT: true; the input reads as it did. -/
def bucketBoundsSpec : ChangeSpec := { name := "bucketBounds", fn := fun _ => fun
  | [d1, d2, d3] => { results := [.lit (.bool true)], args := [d1, d2, d3] }
  | _ => none }
def bucketBoundsRow : OpenClaim := { program := "ytgnamdncoidcnaa", sum := "0edc070a5acc73e7f8104a214424170316de91399fb925006792da0e407aea8c", func := "roundhouse/roundhouselaw08.BucketBounds", spec := "bucketBounds", apart := false }
def BucketBoundsSaid : Prop := bucketBoundsRow.holds Try.pinned (OpenSpec.ofChange bucketBoundsSpec)

/-- ITS FALSE NEIGHBOUR: 'it returns false'. Refute it at one input. -/
def bucketBoundsWrong : ChangeSpec := { name := "bucketBounds", fn := fun _ => fun
  | [d1, d2, d3] => { results := [.lit (.bool false)], args := [d1, d2, d3] }
  | _ => none }
def BucketBoundsWrongFalsely : Prop := bucketBoundsRow.holds Try.pinned (OpenSpec.ofChange bucketBoundsWrong)

/-- 'roundhouselaw08.BucketSplit': WHATEVER THE INPUT: true; the input reads as it did. -/
def bucketSplitSpec : ChangeSpec := { name := "bucketSplit", fn := fun _ => fun
  | [d1, d2, d3, d4, d5] => { results := [.lit (.bool true)], args := [d1, d2, d3, d4, d5] }
  | _ => none }
def bucketSplitRow : OpenClaim := { program := "ytgnamdncoidcnaa", sum := "0edc070a5acc73e7f8104a214424170316de91399fb925006792da0e407aea8c", func := "roundhouse/roundhouselaw08.BucketSplit", spec := "bucketSplit", apart := false }
def BucketSplitSaid : Prop := bucketSplitRow.holds Try.pinned (OpenSpec.ofChange bucketSplitSpec)

/-- ITS FALSE NEIGHBOUR: 'it returns false'. Refute it at one input. -/
def bucketSplitWrong : ChangeSpec := { name := "bucketSplit", fn := fun _ => fun
  | [d1, d2, d3, d4, d5] => { results := [.lit (.bool false)], args := [d1, d2, d3, d4, d5] }
  | _ => none }
def BucketSplitWrongFalsely : Prop := bucketSplitRow.holds Try.pinned (OpenSpec.ofChange bucketSplitWrong)

/-- 'roundhouselaw08.BucketLazy': WHATEVER THE INPUT: true; the input reads as it did. -/
def bucketLazySpec : ChangeSpec := { name := "bucketLazy", fn := fun _ => fun
  | [d1, d2, d3] => { results := [.lit (.bool true)], args := [d1, d2, d3] }
  | _ => none }
def bucketLazyRow : OpenClaim := { program := "ytgnamdncoidcnaa", sum := "0edc070a5acc73e7f8104a214424170316de91399fb925006792da0e407aea8c", func := "roundhouse/roundhouselaw08.BucketLazy", spec := "bucketLazy", unfollowed := true, recurses := true, apart := false }
def BucketLazySaid : Prop := bucketLazyRow.holds Try.pinned (OpenSpec.ofChange bucketLazySpec)

/-- ITS FALSE NEIGHBOUR: 'it returns false'. Refute it at one input. -/
def bucketLazyWrong : ChangeSpec := { name := "bucketLazy", fn := fun _ => fun
  | [d1, d2, d3] => { results := [.lit (.bool false)], args := [d1, d2, d3] }
  | _ => none }
def BucketLazyWrongFalsely : Prop := bucketLazyRow.holds Try.pinned (OpenSpec.ofChange bucketLazyWrong)

/-- 'roundhouselaw08.BucketWhen': WHATEVER THE INPUT: true; the input reads as it did. -/
def bucketWhenSpec : ChangeSpec := { name := "bucketWhen", fn := fun _ => fun
  | [d1, d2, d3, d4] => { results := [.lit (.bool true)], args := [d1, d2, d3, d4] }
  | _ => none }
def bucketWhenRow : OpenClaim := { program := "ytgnamdncoidcnaa", sum := "0edc070a5acc73e7f8104a214424170316de91399fb925006792da0e407aea8c", func := "roundhouse/roundhouselaw08.BucketWhen", spec := "bucketWhen", unfollowed := true, recurses := true, apart := false }
def BucketWhenSaid : Prop := bucketWhenRow.holds Try.pinned (OpenSpec.ofChange bucketWhenSpec)

/-- ITS FALSE NEIGHBOUR: 'it returns false'. Refute it at one input. -/
def bucketWhenWrong : ChangeSpec := { name := "bucketWhen", fn := fun _ => fun
  | [d1, d2, d3, d4] => { results := [.lit (.bool false)], args := [d1, d2, d3, d4] }
  | _ => none }
def BucketWhenWrongFalsely : Prop := bucketWhenRow.holds Try.pinned (OpenSpec.ofChange bucketWhenWrong)

/-- 'roundhouselaw08.BucketPlays': WHATEVER THE INPUT: true; the input reads as it did. -/
def bucketPlaysSpec : ChangeSpec := { name := "bucketPlays", fn := fun _ => fun
  | [d1, d2, d3] => { results := [.lit (.bool true)], args := [d1, d2, d3] }
  | _ => none }
def bucketPlaysRow : OpenClaim := { program := "ytgnamdncoidcnaa", sum := "0edc070a5acc73e7f8104a214424170316de91399fb925006792da0e407aea8c", func := "roundhouse/roundhouselaw08.BucketPlays", spec := "bucketPlays", unfollowed := true, recurses := true, apart := false }
def BucketPlaysSaid : Prop := bucketPlaysRow.holds Try.pinned (OpenSpec.ofChange bucketPlaysSpec)

/-- ITS FALSE NEIGHBOUR: 'it returns false'. Refute it at one input. -/
def bucketPlaysWrong : ChangeSpec := { name := "bucketPlays", fn := fun _ => fun
  | [d1, d2, d3] => { results := [.lit (.bool false)], args := [d1, d2, d3] }
  | _ => none }
def BucketPlaysWrongFalsely : Prop := bucketPlaysRow.holds Try.pinned (OpenSpec.ofChange bucketPlaysWrong)

/-- 'roundhouselaw08.BucketNames': WHATEVER THE INPUT: true; the input reads as it did. -/
def bucketNamesSpec : ChangeSpec := { name := "bucketNames", fn := fun _ => fun
  | [] => { results := [.lit (.bool true)], args := [] }
  | _ => none }
def bucketNamesRow : OpenClaim := { program := "ytgnamdncoidcnaa", sum := "0edc070a5acc73e7f8104a214424170316de91399fb925006792da0e407aea8c", func := "roundhouse/roundhouselaw08.BucketNames", spec := "bucketNames", unfollowed := true, recurses := true, apart := false }
def BucketNamesSaid : Prop := bucketNamesRow.holds Try.pinned (OpenSpec.ofChange bucketNamesSpec)

/-- ITS FALSE NEIGHBOUR: 'it returns false'. Refute it at one input. -/
def bucketNamesWrong : ChangeSpec := { name := "bucketNames", fn := fun _ => fun
  | [] => { results := [.lit (.bool false)], args := [] }
  | _ => none }
def BucketNamesWrongFalsely : Prop := bucketNamesRow.holds Try.pinned (OpenSpec.ofChange bucketNamesWrong)

/- THE SECOND FORM. 'bulk': how many values and letters a reading holds, each counted each time it is reached (what is shared counts as often as it is met; a slice's spare places count too). A statement '..UptoSaid' is the law's where the arguments, and the package variables that the reading takes, are together of bulk at most 1048576: NARROWER than '..Said'. Prove '..Said' where nothing that the law and all that it calls make is longer than what came in: it says more and counts as full. Else prove '..UptoSaid'. A law counts once. -/
mutual
def uptoBulk {H : Type} : DataW H → Nat
  | .lit (.string bytes) => bytes.length + 1
  | .lit _ => 1
  | .nil => 1
  | .ptr d => uptoBulk d + 1
  | .slice elems spare => uptoBulkAll elems + uptoBulkAll spare + 1
  | .agg parts => uptoBulkAll parts + 1
  | .iface _ d => uptoBulk d + 1
  | .map entries => uptoBulkEntries entries + 1
  | .held _ => 1
def uptoBulkAll {H : Type} : List (DataW H) → Nat
  | [] => 0
  | d :: r => uptoBulk d + uptoBulkAll r
def uptoBulkEntries {H : Type} : List (Lit × DataW H) → Nat
  | [] => 0
  | x :: r => uptoBulkEntry x + uptoBulkEntries r
def uptoBulkEntry {H : Type} : Lit × DataW H → Nat
  | (.string bytes, d) => bytes.length + uptoBulk d + 1
  | (_, d) => uptoBulk d + 1
 end
def uptoSmall : (H : Type) → List (DataW H) → Bool := fun _ ds => decide (uptoBulkAll ds ≤ 1048576)
def OpenSpec.upto (s : _root_.Go.ChangeSpec) : _root_.Go.OpenSpec := { _root_.Go.OpenSpec.ofChange s with cond := some uptoSmall }

/-- 'roundhouselaw08.BucketBounds', WHERE WHAT IT READS IS OF BULK AT MOST 1048576: true; the input reads as it did. -/
def bucketBoundsUptoRow : OpenClaim := { program := "ytgnamdncoidcnaa", sum := "0edc070a5acc73e7f8104a214424170316de91399fb925006792da0e407aea8c", func := "roundhouse/roundhouselaw08.BucketBounds", spec := "bucketBounds", apart := false, narrowed := true }
def BucketBoundsUptoSaid : Prop := bucketBoundsUptoRow.holds Try.pinned (OpenSpec.upto bucketBoundsSpec)

/-- 'roundhouselaw08.BucketSplit', WHERE WHAT IT READS IS OF BULK AT MOST 1048576: true; the input reads as it did. -/
def bucketSplitUptoRow : OpenClaim := { program := "ytgnamdncoidcnaa", sum := "0edc070a5acc73e7f8104a214424170316de91399fb925006792da0e407aea8c", func := "roundhouse/roundhouselaw08.BucketSplit", spec := "bucketSplit", apart := false, narrowed := true }
def BucketSplitUptoSaid : Prop := bucketSplitUptoRow.holds Try.pinned (OpenSpec.upto bucketSplitSpec)

/-- 'roundhouselaw08.BucketLazy', WHERE WHAT IT READS IS OF BULK AT MOST 1048576: true; the input reads as it did. -/
def bucketLazyUptoRow : OpenClaim := { program := "ytgnamdncoidcnaa", sum := "0edc070a5acc73e7f8104a214424170316de91399fb925006792da0e407aea8c", func := "roundhouse/roundhouselaw08.BucketLazy", spec := "bucketLazy", unfollowed := true, recurses := true, apart := false, narrowed := true }
def BucketLazyUptoSaid : Prop := bucketLazyUptoRow.holds Try.pinned (OpenSpec.upto bucketLazySpec)

/-- 'roundhouselaw08.BucketWhen', WHERE WHAT IT READS IS OF BULK AT MOST 1048576: true; the input reads as it did. -/
def bucketWhenUptoRow : OpenClaim := { program := "ytgnamdncoidcnaa", sum := "0edc070a5acc73e7f8104a214424170316de91399fb925006792da0e407aea8c", func := "roundhouse/roundhouselaw08.BucketWhen", spec := "bucketWhen", unfollowed := true, recurses := true, apart := false, narrowed := true }
def BucketWhenUptoSaid : Prop := bucketWhenUptoRow.holds Try.pinned (OpenSpec.upto bucketWhenSpec)

/-- 'roundhouselaw08.BucketPlays', WHERE WHAT IT READS IS OF BULK AT MOST 1048576: true; the input reads as it did. -/
def bucketPlaysUptoRow : OpenClaim := { program := "ytgnamdncoidcnaa", sum := "0edc070a5acc73e7f8104a214424170316de91399fb925006792da0e407aea8c", func := "roundhouse/roundhouselaw08.BucketPlays", spec := "bucketPlays", unfollowed := true, recurses := true, apart := false, narrowed := true }
def BucketPlaysUptoSaid : Prop := bucketPlaysUptoRow.holds Try.pinned (OpenSpec.upto bucketPlaysSpec)

/-- 'roundhouselaw08.BucketNames', WHERE WHAT IT READS IS OF BULK AT MOST 1048576: true; the input reads as it did. -/
def bucketNamesUptoRow : OpenClaim := { program := "ytgnamdncoidcnaa", sum := "0edc070a5acc73e7f8104a214424170316de91399fb925006792da0e407aea8c", func := "roundhouse/roundhouselaw08.BucketNames", spec := "bucketNames", unfollowed := true, recurses := true, apart := false, narrowed := true }
def BucketNamesUptoSaid : Prop := bucketNamesUptoRow.holds Try.pinned (OpenSpec.upto bucketNamesSpec)

end Rows
end Go.Proofs.Ytgnamdncoidcnaa
