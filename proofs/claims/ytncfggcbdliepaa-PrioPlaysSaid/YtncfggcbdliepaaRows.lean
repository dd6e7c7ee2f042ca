/-
  No cell of these rows narrows 'for every input' (looked for: loops, veiled, ifaces, maps, wideKeys, modest, calm, conditions, laid).
  DERIVED. THE GIVEN ROWS OF THIS SEAT. 5 by the template 'for every input the law returns true; each argument reads behind the call as it read before'; 0 by the template 'total and deterministic' (their statements: YtncfggcbdliepaaTotals.lean).
  GIVEN WITH THE SEED: the statements are not yours to turn. If you find one false, say at which input.
  Laid BY PROGRAM, IN A SANDBOX (cutbox-rows.mjs): the forced cells as the released guide's own fill.sh prints them over the translation 22018eb6c880ec61… (all of the seat's roots in one cut). By AI agents, Wed Nov 11 2026. No macro, syntax, notation, axiom, sorry.
-/
import Derived.Test.YtncfggcbdliepaaChecked
import GoSem.Claim
import GoSem.ClaimJoined
import GoSem.ClaimMapViews
import Derived.JoinedTies
import Derived.KernelRfl
namespace Go.Proofs.Ytncfggcbdliepaa
/- THE CELL 'sum', in the pinned program and in every row, IS THE sha256 OF THE DUMP (.gsa) THAT YtncfggcbdliepaaProg.lean LOADS. Nothing in Lean hashes anything: it is a label: what it is worth is what the hold of that sum in a sandbox is worth. -/
noncomputable def Try.pinned : Pinned := { name := "ytncfggcbdliepaa", sum := "22018eb6c880ec6163591875f6ac2b3e46f10d51364815976071240ff856fefd", checked := Try.checked }
namespace Rows
def none {H : Type} : Left H := { results := [], args := [] }

/-- 'roundhouselaw06.PrioAll': WHATEVER THE INPUT: true; the input reads as it did. -/
def prioAllSpec : ChangeSpec := { name := "prioAll", fn := fun _ => fun
  | [d1, d2] => { results := [.lit (.bool true)], args := [d1, d2] }
  | _ => none }
def prioAllRow : OpenClaim := { program := "ytncfggcbdliepaa", sum := "22018eb6c880ec6163591875f6ac2b3e46f10d51364815976071240ff856fefd", func := "roundhouse/roundhouselaw06.PrioAll", spec := "prioAll", unfollowed := true, recurses := true, apart := false }
def PrioAllSaid : Prop := prioAllRow.holds Try.pinned (OpenSpec.ofChange prioAllSpec)

/-- ITS FALSE NEIGHBOUR: 'it returns false'. Refute it at one input. -/
def prioAllWrong : ChangeSpec := { name := "prioAll", fn := fun _ => fun
  | [d1, d2] => { results := [.lit (.bool false)], args := [d1, d2] }
  | _ => none }
def PrioAllWrongFalsely : Prop := prioAllRow.holds Try.pinned (OpenSpec.ofChange prioAllWrong)

/-- 'roundhouselaw06.PrioLeaves': WHATEVER THE INPUT: true; the input reads as it did. -/
def prioLeavesSpec : ChangeSpec := { name := "prioLeaves", fn := fun _ => fun
  | [d1, d2, d3, d4, d5] => { results := [.lit (.bool true)], args := [d1, d2, d3, d4, d5] }
  | _ => none }
def prioLeavesRow : OpenClaim := { program := "ytncfggcbdliepaa", sum := "22018eb6c880ec6163591875f6ac2b3e46f10d51364815976071240ff856fefd", func := "roundhouse/roundhouselaw06.PrioLeaves", spec := "prioLeaves", unfollowed := true, recurses := true, apart := false }
def PrioLeavesSaid : Prop := prioLeavesRow.holds Try.pinned (OpenSpec.ofChange prioLeavesSpec)

/-- ITS FALSE NEIGHBOUR: 'it returns false'. Refute it at one input. -/
def prioLeavesWrong : ChangeSpec := { name := "prioLeaves", fn := fun _ => fun
  | [d1, d2, d3, d4, d5] => { results := [.lit (.bool false)], args := [d1, d2, d3, d4, d5] }
  | _ => none }
def PrioLeavesWrongFalsely : Prop := prioLeavesRow.holds Try.pinned (OpenSpec.ofChange prioLeavesWrong)

/-- 'roundhouselaw06.PrioMoves': WHATEVER THE INPUT: true; the input reads as it did. -/
def prioMovesSpec : ChangeSpec := { name := "prioMoves", fn := fun _ => fun
  | [d1, d2, d3] => { results := [.lit (.bool true)], args := [d1, d2, d3] }
  | _ => none }
def prioMovesRow : OpenClaim := { program := "ytncfggcbdliepaa", sum := "22018eb6c880ec6163591875f6ac2b3e46f10d51364815976071240ff856fefd", func := "roundhouse/roundhouselaw06.PrioMoves", spec := "prioMoves", unfollowed := true, recurses := true, apart := false }
def PrioMovesSaid : Prop := prioMovesRow.holds Try.pinned (OpenSpec.ofChange prioMovesSpec)

/-- ITS FALSE NEIGHBOUR: 'it returns false'. Refute it at one input. -/
def prioMovesWrong : ChangeSpec := { name := "prioMoves", fn := fun _ => fun
  | [d1, d2, d3] => { results := [.lit (.bool false)], args := [d1, d2, d3] }
  | _ => none }
def PrioMovesWrongFalsely : Prop := prioMovesRow.holds Try.pinned (OpenSpec.ofChange prioMovesWrong)

/-- 'roundhouselaw06.PrioPlays': WHATEVER THE INPUT: true; the input reads as it did. -/
def prioPlaysSpec : ChangeSpec := { name := "prioPlays", fn := fun _ => fun
  | [d1, d2] => { results := [.lit (.bool true)], args := [d1, d2] }
  | _ => none }
def prioPlaysRow : OpenClaim := { program := "ytncfggcbdliepaa", sum := "22018eb6c880ec6163591875f6ac2b3e46f10d51364815976071240ff856fefd", func := "roundhouse/roundhouselaw06.PrioPlays", spec := "prioPlays", unfollowed := true, recurses := true, apart := false }
def PrioPlaysSaid : Prop := prioPlaysRow.holds Try.pinned (OpenSpec.ofChange prioPlaysSpec)

/-- ITS FALSE NEIGHBOUR: 'it returns false'. Refute it at one input. -/
def prioPlaysWrong : ChangeSpec := { name := "prioPlays", fn := fun _ => fun
  | [d1, d2] => { results := [.lit (.bool false)], args := [d1, d2] }
  | _ => none }
def PrioPlaysWrongFalsely : Prop := prioPlaysRow.holds Try.pinned (OpenSpec.ofChange prioPlaysWrong)

/-- 'roundhouselaw06.PrioOnce': WHATEVER THE INPUT: true; the input reads as it did. -/
def prioOnceSpec : ChangeSpec := { name := "prioOnce", fn := fun _ => fun
  | [d1, d2] => { results := [.lit (.bool true)], args := [d1, d2] }
  | _ => none }
def prioOnceRow : OpenClaim := { program := "ytncfggcbdliepaa", sum := "22018eb6c880ec6163591875f6ac2b3e46f10d51364815976071240ff856fefd", func := "roundhouse/roundhouselaw06.PrioOnce", spec := "prioOnce", unfollowed := true, recurses := true, apart := false }
def PrioOnceSaid : Prop := prioOnceRow.holds Try.pinned (OpenSpec.ofChange prioOnceSpec)

/-- ITS FALSE NEIGHBOUR: 'it returns false'. Refute it at one input. -/
def prioOnceWrong : ChangeSpec := { name := "prioOnce", fn := fun _ => fun
  | [d1, d2] => { results := [.lit (.bool false)], args := [d1, d2] }
  | _ => none }
def PrioOnceWrongFalsely : Prop := prioOnceRow.holds Try.pinned (OpenSpec.ofChange prioOnceWrong)

/- THE SECOND FORM. 'bulk': how many values and letters a reading holds, each counted each time it is reached (what is shared counts as often as it is met; a slice's spare places count too). A statement '..UptoSaid' is the law's where the arguments, and the package variables that the reading takes, are together of bulk at most 1048576: NARROWER than '..Said'. Prove '..Said' where nothing that the law and all that it calls make is longer than what came in: it says more and counts as full. Else prove '..UptoSaid'. A law counts once. -/
mutual
def uptoBulk {H : Type} : DataW H → Nat
  | .lit (.string bytes) => bytes.length + 1
  | .lit _ => 1
  | .nil => 1
  | .ptr d => uptoBulk d + 1
  | .slice elems spare => uptoBulkAll elems + uptoBulkAll spare + 1
  | .agg parts => uptoBulkAll parts + 1
  | .iface _ d => uptoBulk d + 1
  | .map entries => uptoBulkEntries entries + 1
  | .held _ => 1
def uptoBulkAll {H : Type} : List (DataW H) → Nat
  | [] => 0
  | d :: r => uptoBulk d + uptoBulkAll r
def uptoBulkEntries {H : Type} : List (Lit × DataW H) → Nat
  | [] => 0
  | x :: r => uptoBulkEntry x + uptoBulkEntries r
def uptoBulkEntry {H : Type} : Lit × DataW H → Nat
  | (.string bytes, d) => bytes.length + uptoBulk d + 1
  | (_, d) => uptoBulk d + 1
 end
def uptoSmall : (H : Type) → List (DataW H) → Bool := fun _ ds => decide (uptoBulkAll ds ≤ 1048576)
def OpenSpec.upto (s : _root_.Go.ChangeSpec) : _root_.Go.OpenSpec := { _root_.Go.OpenSpec.ofChange s with cond := some uptoSmall }

/-- 'roundhouselaw06.PrioAll', WHERE WHAT IT READS IS OF BULK AT MOST 1048576: true; the input reads as it did. -/
def prioAllUptoRow : OpenClaim := { program := "ytncfggcbdliepaa", sum := "22018eb6c880ec6163591875f6ac2b3e46f10d51364815976071240ff856fefd", func := "roundhouse/roundhouselaw06.PrioAll", spec := "prioAll", unfollowed := true, recurses := true, apart := false, narrowed := true }
def PrioAllUptoSaid : Prop := prioAllUptoRow.holds Try.pinned (OpenSpec.upto prioAllSpec)

/-- 'roundhouselaw06.PrioLeaves', WHERE WHAT IT READS IS OF BULK AT MOST 1048576: true; the input reads as it did. -/
def prioLeavesUptoRow : OpenClaim := { program := "ytncfggcbdliepaa", sum := "22018eb6c880ec6163591875f6ac2b3e46f10d51364815976071240ff856fefd", func := "roundhouse/roundhouselaw06.PrioLeaves", spec := "prioLeaves", unfollowed := true, recurses := true, apart := false, narrowed := true }
def PrioLeavesUptoSaid : Prop := prioLeavesUptoRow.holds Try.pinned (OpenSpec.upto prioLeavesSpec)

/-- 'roundhouselaw06.PrioMoves', WHERE WHAT IT READS IS OF BULK AT MOST 1048576: true; the input reads as it did. -/
def prioMovesUptoRow : OpenClaim := { program := "ytncfggcbdliepaa", sum := "22018eb6c880ec6163591875f6ac2b3e46f10d51364815976071240ff856fefd", func := "roundhouse/roundhouselaw06.PrioMoves", spec := "prioMoves", unfollowed := true, recurses := true, apart := false, narrowed := true }
def PrioMovesUptoSaid : Prop := prioMovesUptoRow.holds Try.pinned (OpenSpec.upto prioMovesSpec)

/-- 'roundhouselaw06.PrioPlays', WHERE WHAT IT READS IS OF BULK AT MOST 1048576: true; the input reads as it did. -/
def prioPlaysUptoRow : OpenClaim := { program := "ytncfggcbdliepaa", sum := "22018eb6c880ec6163591875f6ac2b3e46f10d51364815976071240ff856fefd", func := "roundhouse/roundhouselaw06.PrioPlays", spec := "prioPlays", unfollowed := true, recurses := true, apart := false, narrowed := true }
def PrioPlaysUptoSaid : Prop := prioPlaysUptoRow.holds Try.pinned (OpenSpec.upto prioPlaysSpec)

/-- 'roundhouselaw06.PrioOnce', WHERE WHAT IT READS IS OF BULK AT MOST 1048576: true; the input reads as it did. -/
def prioOnceUptoRow : OpenClaim := { program := "ytncfggcbdliepaa", sum := "22018eb6c880ec6163591875f6ac2b3e46f10d51364815976071240ff856fefd", func := "roundhouse/roundhouselaw06.PrioOnce", spec := "prioOnce", unfollowed := true, recurses := true, apart := false, narrowed := true }
def PrioOnceUptoSaid : Prop := prioOnceUptoRow.holds Try.pinned (OpenSpec.upto prioOnceSpec)

end Rows
end Go.Proofs.Ytncfggcbdliepaa
