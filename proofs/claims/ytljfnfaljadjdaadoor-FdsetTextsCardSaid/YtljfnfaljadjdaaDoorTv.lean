/- The law FdsetTexts, whole. -/
import Derived.Test.YtljfnfaljadjdaaDoorTt
namespace Go.Proofs.YtljfnfaljadjdaaDoor
open Go.ChangeShapes Go.WideShapes Go.ChangeAt Go.RowKit
set_option linter.unusedVariables false
set_option maxRecDepth 100000

theorem texts_long (a b : Nat) (t : ByteArray) (w : World) (ht : 1000 < t.size) (hm : t.size ≤ maxLen) : Calls Tryd.prog 7 #[.agg #[.int .u32 a, .int .u32 b], .string t] w fun e w' => e = .returned (.bool true) ∧ Below w.heap.size w w' := by
  have ht2 : (1000 : Int) < t.size := by omega
  have B1 := Lib.hid ((Below.refl _ w).alloc (Nat.le_refl _) (.cells #[.int .u32 a, .int .u32 b] 24))
  go_enter Tryd.func7, Tryd.ntmps7
  go_wp2_with fail
  go_ret
  exact ⟨rfl, B1.out⟩
theorem of_laidT {W : World} (h : laidMetH Tryd.prog Rows.fdsetTextsRow.laid W) : Lib.TabIs Tryd.prog W "internal/strconv.uint64pow10" .u64 Lib.pow10Tab ∧ (∃ ev, W.cell? ⟨1, 0, none⟩ = some ev ∧ EvOk ev) ∧ ∃ ev, W.cell? ⟨2, 0, none⟩ = some ev ∧ EvOk ev := of_laidN h
section
variable {H : Type} {enc : TypeId × Value → H} {w : World} {base : Nat} {spare : Nat → Bool} {held : Bool}
theorem texts_top (v : Value) (d : DataW H) (p : List MemPlace) (t : ByteArray) (w : World) (he : (Lib.TabIs Tryd.prog w "internal/strconv.uint64pow10" .u64 Lib.pow10Tab ∧ (∃ ev, w.cell? ⟨1, 0, none⟩ = some ev ∧ EvOk ev) ∧ ∃ ev, w.cell? ⟨2, 0, none⟩ = some ev ∧ EvOk ev) ∧ ∃ m, w.cell? ⟨0, 0, none⟩ = some (.int .i64 m))
    {r : Reach} {b0 : Nat} (hv : Value.okWide Tryd.prog w r b0 24 v) (h : DataW.Trod enc Tryd.prog w base spare held 24 v d p) (ws : t.size ≤ maxLen) :
    Calls Tryd.prog 7 #[v, .string t] w fun e w' => e = .returned (.bool true) ∧ Below w.heap.size w w' := by
  obtain ⟨a, b, rfl, ha, hb⟩ := open_set hv h
  by_cases ht : t.size ≤ 1000
  · exact texts_walk a b t w ⟨he.2, he.1.2.1, he.1.2.2, he.1.1⟩ ha hb ht
  · exact texts_long a b t w (by omega) ws
end
end Go.Proofs.YtljfnfaljadjdaaDoor
