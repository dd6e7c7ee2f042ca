/- Contracts: math's functions, Seconds and FromSeconds, of the program and of the reference. -/
import Derived.Test.YtfjjmmaddcofkaaC
import Derived.Test.YtfjjmmaddcofkaaFq
import Derived.Laws.FloatArith
import Derived.Laws.Externs
import Derived.WalkLawsBesides
namespace Go.Proofs.Ytfjjmmaddcofkaa
open Go.RowKit
set_option linter.unusedSimpArgs false
set_option linter.unusedVariables false

/-- Is this word a number or an infinity? -/
def isNum (b : Nat) : Bool := !(Ieee.double.read b).isNaN
theorem ceil_entry (args : Array Value) (w : World) : (callFunc 35 args).run Try.prog w = ((Extern.MathFloor.toIntegral "math.archCeil" .up args).run Try.prog w).andThen fun v w' => .ok (.value v) w' :=
  run_callFunc_extern Try.func35 (by kernel_rfl) (by kernel_rfl) (by kernel_rfl) (e := Extern.MathFloor.toIntegral "math.archCeil" .up) (by kernel_rfl) args w
theorem bits_entry (args : Array Value) (w : World) : (callFunc 34 args).run Try.prog w = ((Extern.MathFloatBits.float64frombits args).run Try.prog w).andThen fun v w' => .ok (.value v) w' :=
  run_callFunc_extern Try.func34 (by kernel_rfl) (by kernel_rfl) (by kernel_rfl) (e := Extern.MathFloatBits.float64frombits) (by kernel_rfl) args w
theorem bits_run (n : Int) (w : World) : (callFunc 34 #[.int .u64 n]).run Try.prog w = .ok (.value (.float .f64 n.toNat)) w := by
  rw [bits_entry]; rfl
theorem ceil_num (b : Nat) (w : World) (h : isNum b = true) : (callFunc 35 #[.float .f64 b]).run Try.prog w = .ok (.value (.float .f64 (Ieee.double.write ((Ieee.double.read b).integral .up)))) w := by
  rw [ceil_entry]
  conv in Extern.MathFloor.toIntegral _ _ _ => whnf
  unfold isNum at h
  have e : FloatKind.f64.decode b = Ieee.double.read b := rfl
  rw [e]
  generalize Ieee.double.read b = d at *
  cases d
  · rfl
  · rfl
  · cases h
theorem ceil_nan (b : Nat) (w : World) (h : isNum b = false) : ∃ r w', (callFunc 35 #[.float .f64 b]).run Try.prog w = .ok (.value (.float .f64 r)) w' ∧ (w' = w ∨ w' = w.drew) := by
  rw [ceil_entry]
  conv in Extern.MathFloor.toIntegral _ _ _ => whnf
  unfold isNum at h
  have e : FloatKind.f64.decode b = Ieee.double.read b := rfl
  rw [e]
  generalize Ieee.double.read b = d at *
  cases d
  · cases h
  · cases h
  · simp only []
    split
    · exact ⟨_, _, rfl, .inl rfl⟩
    · simp only [Sem.run_bind, run_choose_drew]
      split
      · exact ⟨_, _, rfl, .inl rfl⟩
      · exact ⟨_, _, rfl, .inr rfl⟩
/-- Ceil of a number. -/
theorem ceil_any (b : Nat) (w : World) (h : isNum b = true) : Calls Try.prog 32 #[.float .f64 b] w fun e w' => e = .returned (.float .f64 (Ieee.double.write ((Ieee.double.read b).integral .up))) ∧ w = w' := by
  have hc := fun w => ceil_num b w h
  go_enter Try.func32, Try.ntmps32
  go_wp2_with (simp only [hc])
  all_goals (go_ret; exact ⟨rfl, rfl⟩)
/-- Ceil of what is no number. -/
theorem ceil_none (b : Nat) (w : World) (h : isNum b = false) : Calls Try.prog 32 #[.float .f64 b] w fun e w' => ∃ r, e = .returned (.float .f64 r) ∧ Below w.heap.size w w' := by
  obtain ⟨r, w1, hc, hw⟩ := ceil_nan b w h
  have hb : Below w.heap.size w w1 := by
    rcases hw with rfl | rfl
    · exact Below.refl _ _
    · exact (Below.refl _ _).drew
  clear hw
  go_enter Try.func32, Try.ntmps32
  go_wp2_with (simp only [hc])
  all_goals (go_ret; exact ⟨_, rfl, hb⟩)
theorem isNaN_any (b : Nat) (w : World) : Calls Try.prog 33 #[.float .f64 b] w fun e w' => e = .returned (.bool (FloatKind.f64.format.order b b != some .eq)) ∧ w = w' := by
  go_enter Try.func33, Try.ntmps33
  go_wp2
  all_goals (go_ret; exact ⟨rfl, rfl⟩)
theorem inf_any (w : World) : Calls Try.prog 31 #[.int .i64 1] w fun e w' => e = .returned (.float .f64 0x7FF0000000000000) ∧ w = w' := by
  have hc := bits_run
  go_enter Try.func31, Try.ntmps31
  go_wp2_with (simp only [hc])
  all_goals (go_ret; exact ⟨rfl, rfl⟩)
end Go.Proofs.Ytfjjmmaddcofkaa
