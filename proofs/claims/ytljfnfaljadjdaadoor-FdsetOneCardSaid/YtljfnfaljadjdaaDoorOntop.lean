/- FdsetOne as the row asks it. -/
import Derived.Test.YtljfnfaljadjdaaDoorOn
namespace Go.Proofs.YtljfnfaljadjdaaDoor
open Go.RowKit Go.ChangeShapes Go.WideShapes Go.ChangeAt
set_option linter.unusedVariables false
set_option maxRecDepth 100000
theorem of_any1 {α : Prop} (_ : α) : True := trivial
section
variable {H : Type} {enc : TypeId × Value → H} {w : World} {base : Nat} {spare : Nat → Bool} {held : Bool}
theorem one_top (v : Value) (d : DataW H) (p : List MemPlace) (fd : Int) (w : World) (_ : True)
    {r : Reach} {b0 : Nat} (hv : Value.okWide Tryd.prog w r b0 24 v) (h : DataW.Trod enc Tryd.prog w base spare held 24 v d p) (hf : (Lit.int .u8 fd).wf = true) :
    Calls Tryd.prog 3 #[v, .int .u8 fd] w fun e w' => e = .returned (.bool true) ∧ Below w.heap.size w w' := by
  obtain ⟨a, b, rfl, ha, hb⟩ := open_set hv h
  obtain ⟨f0, f1⟩ := bd_u8 hf
  exact one_walk a b _ _ _ _ _ _ (fd % 64).toNat fd w ha hb (by omega) f0 f1 (by omega) (one_all a b (fd % 64).toNat ha hb (by omega))
end
end Go.Proofs.YtljfnfaljadjdaaDoor
