/- Top. -/
import Derived.Test.YtljfnfaljadjdaaDoorI
import Derived.Test.YtljfnfaljadjdaaDoorShelf
namespace Go.Proofs.YtljfnfaljadjdaaDoor
open Go.RowKit
set_option linter.unusedSimpArgs false
set_option linter.unusedVariables false
set_option maxRecDepth 100000

/-- The greatest number of a set; -1: none. -/
def topN (a b : Nat) : Int := if b = 0 then Lib.bitLen a - 1 else 31 + Lib.bitLen b
set_option maxHeartbeats 1000000 in
theorem top_any (a b : Nat) (w : World) (ha : a < 4294967296) (hb : b < 4294967296) :
    Calls Tryd.prog 22 #[.agg #[.int .u32 a, .int .u32 b]] w fun e w' => e = .returned (.int .i64 (topN a b)) ∧ Below w.heap.size w w' := by
  have l1 := Lib.bitLen_le a 32 (by omega) (by omega)
  have l2 := Lib.bitLen_le b 32 (by omega) (by omega)
  have c1 := fun w => Tryd.bits_Len32 (a : Int) w (by omega) (by omega)
  have c2 := fun w => Tryd.bits_Len32 (b : Int) w (by omega) (by omega)
  rw [show ((a : Nat) : Int).toNat = a by omega] at c1
  rw [show ((b : Nat) : Int).toNat = b by omega] at c2
  generalize hg : topN a b = g
  unfold topN at hg
  have HG := Lib.hid hg; clear hg
  generalize Lib.bitLen a = x at *
  generalize Lib.bitLen b = y at *
  have C1 := Lib.hid c1; have C2 := Lib.hid c2
  clear c1 c2
  by_cases h : b = 0
  · subst h
    have e0 : (((0 : Nat) : Int) != 0) = false := by simp
    go_enter Tryd.func22, Tryd.ntmps22
    go_wp2_with (go_at_call 33; refine (C1.out _).mono ?_; rintro e w' ⟨rfl, rfl⟩)
    go_ret
    exact ⟨by rw [← HG.out, if_pos trivial]; rfl, (Below.refl _ _).alloc (Nat.le_refl _) _⟩
  · have e0 : ((b : Int) != 0) = true := by simp; omega
    have HB := Lib.hid h; clear h
    go_enter Tryd.func22, Tryd.ntmps22
    go_wp2_with (go_at_call 33; refine (C2.out _).mono ?_; rintro e w' ⟨rfl, rfl⟩)
    go_ret
    refine ⟨?_, (Below.refl _ _).alloc (Nat.le_refl _) _⟩
    rw [← HG.out, if_neg HB.out]
    exact congrArg (fun z => Ending.returned (.int .i64 z)) (by omega)
end Go.Proofs.YtljfnfaljadjdaaDoor
