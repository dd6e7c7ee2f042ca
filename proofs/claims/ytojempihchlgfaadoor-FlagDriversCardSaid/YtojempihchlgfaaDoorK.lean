/- FlagDrivers, as the row asks it. -/
import Derived.Test.YtojempihchlgfaaDoorJ
namespace Go.Proofs.YtojempihchlgfaaDoor
open Go.RowKit
set_option linter.unusedVariables false

theorem drivers_top (d : Int) (s : ByteArray) (n a : Int) (A : Option Addr) (len cap : Nat) (z : List Int) (w : World) (hw : Wd w ∧ Hs w) (_ : (Lit.int .i64 d).wf = true) (hsz : s.size ≤ maxLen) (wn : (Lit.int .i64 n).wf = true) (wa : (Lit.int .i64 a).wf = true) (w4 : IsRow .i64 w A len cap z) :
    Calls Tryd.prog 4 #[.int .i64 d, .string s, .int .i64 n, .int .i64 a, .slice A len cap] w fun e w' => e = .returned (.bool true) ∧ Below w.heap.size w w' := by
  obtain ⟨l, rfl, hc, hm, hi, _⟩ := w4.ints
  exact drivers_walk d s n a A cap l w hw hsz wn wa hi hc (by omega)
end Go.Proofs.YtojempihchlgfaaDoor
