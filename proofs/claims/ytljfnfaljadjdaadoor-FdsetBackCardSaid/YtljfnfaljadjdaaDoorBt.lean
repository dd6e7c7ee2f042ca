/- The law FdsetBack, whole. -/
import Derived.Test.YtljfnfaljadjdaaDoorBk
import Derived.Test.YtljfnfaljadjdaaDoorLa
import Derived.Test.YtljfnfaljadjdaaDoorH
namespace Go.Proofs.YtljfnfaljadjdaaDoor
open Go.ChangeShapes Go.WideShapes Go.ChangeAt Go.RowKit
set_option linter.unusedVariables false
set_option maxRecDepth 100000

theorem of_laidB {W : World} (h : laidMetH Tryd.prog Rows.fdsetBackRow.laid W) : Lib.TabIs Tryd.prog W "internal/strconv.uint64pow10" .u64 Lib.pow10Tab ∧ (∃ ev, W.cell? ⟨1, 0, none⟩ = some ev ∧ EvOk ev) ∧ ∃ ev, W.cell? ⟨2, 0, none⟩ = some ev ∧ EvOk ev := of_laidN h
section
variable {H : Type} {enc : TypeId × Value → H} {w : World} {base : Nat} {spare : Nat → Bool} {held : Bool}
theorem back_top (v : Value) (d : DataW H) (p : List MemPlace) (t : ByteArray) (w : World) (he : (Lib.TabIs Tryd.prog w "internal/strconv.uint64pow10" .u64 Lib.pow10Tab ∧ (∃ ev, w.cell? ⟨1, 0, none⟩ = some ev ∧ EvOk ev) ∧ ∃ ev, w.cell? ⟨2, 0, none⟩ = some ev ∧ EvOk ev) ∧ ∃ m, w.cell? ⟨0, 0, none⟩ = some (.int .i64 m))
    {r : Reach} {b0 : Nat} (hv : Value.okWide Tryd.prog w r b0 24 v) (h : DataW.Trod enc Tryd.prog w base spare held 24 v d p) (ws : t.size ≤ maxLen) :
    Calls Tryd.prog 9 #[v, .string t] w fun e w' => e = .returned (.bool true) ∧ Below w.heap.size w w' := by
  obtain ⟨a, b, rfl, ha, hb⟩ := open_set hv h
  by_cases ht : t.size ≤ 1000
  · exact back_walk a b t w ⟨he.2, he.1.2.1, he.1.2.2, he.1.1⟩ ha hb ht
  · exact back_long a b t w (by omega) ws
end
end Go.Proofs.YtljfnfaljadjdaaDoor
