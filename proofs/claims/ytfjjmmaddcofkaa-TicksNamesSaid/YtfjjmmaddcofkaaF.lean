/- The closed law of the names. -/
import Derived.Test.YtfjjmmaddcofkaaC
namespace Go.Proofs.Ytfjjmmaddcofkaa
open Go.RowKit
set_option linter.unusedSimpArgs false
set_option linter.unusedVariables false

set_option maxHeartbeats 4000000 in
set_option maxRecDepth 100000 in
theorem names_walk (w : World) : Calls Try.prog 7 #[] w fun e w' => e = .returned (.bool true) ∧ Below w.heap.size w w' := by
  go_enter Try.func7, Try.ntmps7
  go_wp2_with (first
    | (go_at_call 25; refine (alive_any _).mono ?_; rintro e w' ⟨rfl, rfl⟩)
    | (go_at_call 13; refine (least_any none 0 [] _ (fun h => absurd h (by simp)) (by simp) (by simp)).mono ?_; rintro e w' ⟨rfl, rfl⟩)
    | go_in)
  go_ret
  exact ⟨rfl, Below.refl _ _⟩
end Go.Proofs.Ytfjjmmaddcofkaa
