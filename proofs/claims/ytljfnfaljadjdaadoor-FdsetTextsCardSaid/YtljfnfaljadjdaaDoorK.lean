/- Len. -/
import Derived.Test.YtljfnfaljadjdaaDoorJ
import Derived.Test.YtljfnfaljadjdaaDoorPop32
namespace Go.Proofs.YtljfnfaljadjdaaDoor
open Go.RowKit
set_option linter.unusedSimpArgs false
set_option linter.unusedVariables false
set_option maxRecDepth 100000

theorem pc_le (x : Nat) (h : x < 4294967296) : pc x ≤ 32 := by
  have o1 := ones_le (x / 16777216) (by omega)
  have o2 := ones_le (x / 65536 % 256) (by omega)
  have o3 := ones_le (x / 256 % 256) (by omega)
  have o4 := ones_le (x % 256) (by omega)
  unfold pc; omega
set_option maxHeartbeats 1000000 in
theorem len_any (a b : Nat) (w : World) (ha : a < 4294967296) (hb : b < 4294967296) :
    Calls Tryd.prog 18 #[.agg #[.int .u32 a, .int .u32 b]] w fun e w' => e = .returned (.int .i64 (pc a + pc b : Nat)) ∧ Below w.heap.size w w' := by
  have p1 := pc_le a ha
  have p2 := pc_le b hb
  obtain ⟨W, hW⟩ : ∃ W, W = w.alloc (.cells #[.int .u32 a, .int .u32 b] 24) := ⟨_, rfl⟩
  have s0 : Sb W w.heap.size a b := by rw [hW]; exact Sb.new w a b
  have bw : Below w.heap.size w W := by rw [hW]; exact (Below.refl _ _).alloc (Nat.le_refl _) _
  have HW := Lib.hid hW
  obtain ⟨x0, x1⟩ := s0.cells
  go_enter Tryd.func18, Tryd.ntmps18
  go_wp2_with fail
  rw [← HW.out]
  clear hW HW
  go_quiet ((go_at_call 30; exact Calls.quiet_of (pop32_any _ _ (by first | exact ha | exact hb))))
  go_wp2_with fail
  go_ret
  exact ⟨by first | rfl | (congr 2), below_drewN bw _⟩
end Go.Proofs.YtljfnfaljadjdaaDoor
