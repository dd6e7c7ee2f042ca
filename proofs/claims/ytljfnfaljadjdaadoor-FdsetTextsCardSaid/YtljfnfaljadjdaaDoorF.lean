/- The walk of FdsetTurns. -/
import Derived.Test.YtljfnfaljadjdaaDoorG
namespace Go.Proofs.YtljfnfaljadjdaaDoor
open Go.RowKit
set_option linter.unusedSimpArgs false
set_option linter.unusedVariables false

theorem wi_lt (a fd : Nat) (ha : a < 4294967296) (h : fd < 64) : wiA a fd < 4294967296 := by
  unfold wiA; split
  · exact or_lt _ _ ha (by omega)
  · exact ha
theorem wi_lt' (a fd : Nat) (ha : a < 4294967296) (h : fd < 64) : wiB a fd < 4294967296 := by
  unfold wiB; split
  · exact ha
  · exact or_lt _ _ ha (by omega)
theorem wo_lt (a fd : Nat) (ha : a < 4294967296) : woA a fd < 4294967296 := by
  unfold woA; split
  · exact and_lt _ _ ha
  · exact ha
theorem wo_lt' (a fd : Nat) (ha : a < 4294967296) : woB a fd < 4294967296 := by
  unfold woB; split
  · exact ha
  · exact and_lt _ _ ha
theorem undrew_below {w w' : World} (h : Below w.drew.heap.size w.drew w') : Below w.heap.size w w' := ⟨h.os, h.tape, h.output, h.size, h.block⟩

theorem same_self (l : List Int) : decide (l = l) = true := by simp
theorem list_L (a b : Nat) (w : World) (ha : a < 4294967296) (hb : b < 4294967296) : Calls Tryd.prog 27 #[.agg #[.int .u32 a, .int .u32 b]] w (RetL (L a b) w) := list_any a b w ha hb

theorem list_zero (w : World) : Calls Tryd.prog 27 #[.agg #[.int .u32 0, .int .u32 0]] w fun e w' => ∃ A c, e = .returned (.slice A 0 c) ∧ Below w.heap.size w w' :=
  (list_L 0 0 w (by decide) (by decide)).mono (by
    rintro e w' ⟨A, c, he, _, _, hb⟩
    rw [L_zero] at he
    exact ⟨A, c, he, hb⟩)
theorem same_zero (A : Option Addr) (c : Nat) (w : World) : Calls Tryd.prog 28 #[.slice A 0 c, .slice none 0 0] w fun e w' => e = .returned (.bool true) ∧ Below w.heap.size w w' :=
  (same_any A none c 0 [] [] w (fun h => absurd h (by simp)) (fun h => absurd h (by simp)) (by simp) (by simp) (by simp) (by simp)).mono (by
    rintro e w' ⟨he, hb⟩
    exact ⟨by rw [he]; rfl, hb⟩)

attribute [local irreducible] L lst

end Go.Proofs.YtljfnfaljadjdaaDoor
