/- FdsetSteps as the row asks it. -/
import Derived.Test.YtljfnfaljadjdaaDoorSe
namespace Go.Proofs.YtljfnfaljadjdaaDoor
open Go.RowKit Go.ChangeShapes Go.WideShapes Go.ChangeAt
set_option linter.unusedVariables false
set_option maxRecDepth 100000
theorem of_any2 {α : Prop} (_ : α) : True := trivial
section
variable {H : Type} {enc : TypeId × Value → H} {w : World} {base : Nat} {spare : Nat → Bool} {held : Bool}
theorem steps_top (v : Value) (d : DataW H) (p : List MemPlace) (n : Int) (w : World) (_ : True)
    {r : Reach} {b0 : Nat} (hv : Value.okWide Tryd.prog w r b0 24 v) (h : DataW.Trod enc Tryd.prog w base spare held 24 v d p) (hf : (Lit.int .i64 n).wf = true) :
    Calls Tryd.prog 5 #[v, .int .i64 n] w fun e w' => e = .returned (.bool true) ∧ Below w.heap.size w w' := by
  obtain ⟨a, b, rfl, ha, hb⟩ := open_set hv h
  exact steps_walk a b n w ha hb
end
end Go.Proofs.YtljfnfaljadjdaaDoor
