/- FdsetParts as the row asks it. -/
import Derived.Test.YtljfnfaljadjdaaDoorPa
namespace Go.Proofs.YtljfnfaljadjdaaDoor
open Go.RowKit Go.ChangeShapes Go.WideShapes Go.ChangeAt
set_option linter.unusedVariables false
set_option maxRecDepth 100000
theorem of_any3 {α : Prop} (_ : α) : True := trivial
section
variable {H : Type} {enc : TypeId × Value → H} {w : World} {base : Nat} {spare : Nat → Bool} {held : Bool}
theorem parts_top (v : Value) (d : DataW H) (p : List MemPlace) (v' : Value) (d' : DataW H) (p' : List MemPlace) (w : World) (_ : True)
    {r : Reach} {b0 : Nat} (hv : Value.okWide Tryd.prog w r b0 24 v) (h : DataW.Trod enc Tryd.prog w base spare held 24 v d p)
    {r' : Reach} {b0' : Nat} (hv' : Value.okWide Tryd.prog w r' b0' 24 v') (h' : DataW.Trod enc Tryd.prog w base spare held 24 v' d' p') :
    Calls Tryd.prog 4 #[v, v'] w fun e w' => e = .returned (.bool true) ∧ Below w.heap.size w w' := by
  obtain ⟨a, b, rfl, ha, hb⟩ := open_set hv h
  obtain ⟨c, d, rfl, hc, hd⟩ := open_set hv' h'
  exact parts_walk a b c d w ha hb hc hd
end
end Go.Proofs.YtljfnfaljadjdaaDoor
