/- The document's May and Check. -/
import Derived.Test.YtbanfkpfijcmcaaGreatDoorTx
namespace Go.Proofs.YtbanfkpfijcmcaaGreatDoor
open Go.RowKit
set_option linter.unusedSimpArgs false
set_option linter.unusedVariables false
set_option maxRecDepth 100000

set_option maxHeartbeats 2000000 in
theorem rmay_1 (tk id fl nn er : Int) (d : List UInt8) (A : Option Addr) (c : Nat) (w : World) :
    Calls Tryz.prog 36 #[.agg #[.int .i64 1, .int .u64 tk, .int .i64 id, .int .i64 fl, .int .i64 nn, .int .i64 er, .slice A d.length c]] w fun e w' => e = .returned (.bool (mayF ⟨1, tk, id, fl, nn, er, d⟩)) ∧ Below w.heap.size w w' := by
  have HM : Hid (mayF ⟨1, tk, id, fl, nn, er, d⟩ = (decide (0 ≤ nn ∧ 0 ≤ id ∧ 0 ≤ er) && decide (id = 0 ∧ fl = 0 ∧ er = 0 ∧ d.length = 0))) := Lib.hid (by unfold mayF; simp [List.length_eq_zero_iff])
  generalize mayF ⟨1, tk, id, fl, nn, er, d⟩ = m at *
  generalize d.length = n at *
  go_enter Tryz.func36, Tryz.ntmps36
  go_wp2_with fail
  all_goals
    go_ret
    refine ⟨congrArg (fun b => Ending.returned (Value.bool b)) ?_, (Below.refl _ w).alloc (Nat.le_refl _) _⟩
    rw [HM.out, Bool.eq_iff_iff]
    first | (simp; done) | (simp; omega) | (simp <;> omega)
set_option maxHeartbeats 2000000 in
theorem rmay_2 (tk id fl nn er : Int) (d : List UInt8) (A : Option Addr) (c : Nat) (w : World) :
    Calls Tryz.prog 36 #[.agg #[.int .i64 2, .int .u64 tk, .int .i64 id, .int .i64 fl, .int .i64 nn, .int .i64 er, .slice A d.length c]] w fun e w' => e = .returned (.bool (mayF ⟨2, tk, id, fl, nn, er, d⟩)) ∧ Below w.heap.size w w' := by
  have HM : Hid (mayF ⟨2, tk, id, fl, nn, er, d⟩ = (decide (0 ≤ nn ∧ 0 ≤ id ∧ 0 ≤ er) && decide (0 ≤ fl ∧ fl < 64 ∧ er = 0 ∧ d.length = 0))) := Lib.hid (by unfold mayF; simp [List.length_eq_zero_iff])
  generalize mayF ⟨2, tk, id, fl, nn, er, d⟩ = m at *
  generalize d.length = n at *
  go_enter Tryz.func36, Tryz.ntmps36
  go_wp2_with fail
  all_goals
    go_ret
    refine ⟨congrArg (fun b => Ending.returned (Value.bool b)) ?_, (Below.refl _ w).alloc (Nat.le_refl _) _⟩
    rw [HM.out, Bool.eq_iff_iff]
    first | (simp; done) | (simp; omega) | (simp <;> omega)
set_option maxHeartbeats 2000000 in
theorem rmay_3 (tk id fl nn er : Int) (d : List UInt8) (A : Option Addr) (c : Nat) (w : World) :
    Calls Tryz.prog 36 #[.agg #[.int .i64 3, .int .u64 tk, .int .i64 id, .int .i64 fl, .int .i64 nn, .int .i64 er, .slice A d.length c]] w fun e w' => e = .returned (.bool (mayF ⟨3, tk, id, fl, nn, er, d⟩)) ∧ Below w.heap.size w w' := by
  have HM : Hid (mayF ⟨3, tk, id, fl, nn, er, d⟩ = (decide (0 ≤ nn ∧ 0 ≤ id ∧ 0 ≤ er) && decide (fl = 0 ∧ nn < 100 ∧ d.length ≤ 65536))) := Lib.hid (by unfold mayF; simp [List.length_eq_zero_iff])
  generalize mayF ⟨3, tk, id, fl, nn, er, d⟩ = m at *
  generalize d.length = n at *
  go_enter Tryz.func36, Tryz.ntmps36
  go_wp2_with fail
  all_goals
    go_ret
    refine ⟨congrArg (fun b => Ending.returned (Value.bool b)) ?_, (Below.refl _ w).alloc (Nat.le_refl _) _⟩
    rw [HM.out, Bool.eq_iff_iff]
    first | (simp; done) | (simp; omega) | (simp <;> omega)
set_option maxHeartbeats 2000000 in
theorem rmay_4 (tk id fl nn er : Int) (d : List UInt8) (A : Option Addr) (c : Nat) (w : World) :
    Calls Tryz.prog 36 #[.agg #[.int .i64 4, .int .u64 tk, .int .i64 id, .int .i64 fl, .int .i64 nn, .int .i64 er, .slice A d.length c]] w fun e w' => e = .returned (.bool (mayF ⟨4, tk, id, fl, nn, er, d⟩)) ∧ Below w.heap.size w w' := by
  have HM : Hid (mayF ⟨4, tk, id, fl, nn, er, d⟩ = (decide (0 ≤ nn ∧ 0 ≤ id ∧ 0 ≤ er) && decide (id = 0 ∧ fl = 0 ∧ d.length = 0))) := Lib.hid (by unfold mayF; simp [List.length_eq_zero_iff])
  generalize mayF ⟨4, tk, id, fl, nn, er, d⟩ = m at *
  generalize d.length = n at *
  go_enter Tryz.func36, Tryz.ntmps36
  go_wp2_with fail
  all_goals
    go_ret
    refine ⟨congrArg (fun b => Ending.returned (Value.bool b)) ?_, (Below.refl _ w).alloc (Nat.le_refl _) _⟩
    rw [HM.out, Bool.eq_iff_iff]
    first | (simp; done) | (simp; omega) | (simp <;> omega)
set_option maxHeartbeats 2000000 in
theorem rmay_0 (kd tk id fl nn er : Int) (d : List UInt8) (A : Option Addr) (c : Nat) (w : World) (k1 : ¬ kd = 1) (k2 : ¬ kd = 2) (k3 : ¬ kd = 3) (k4 : ¬ kd = 4) :
    Calls Tryz.prog 36 #[.agg #[.int .i64 kd, .int .u64 tk, .int .i64 id, .int .i64 fl, .int .i64 nn, .int .i64 er, .slice A d.length c]] w fun e w' => e = .returned (.bool (mayF ⟨kd, tk, id, fl, nn, er, d⟩)) ∧ Below w.heap.size w w' := by
  have HM : Hid (mayF ⟨kd, tk, id, fl, nn, er, d⟩ = (decide (0 ≤ nn ∧ 0 ≤ id ∧ 0 ≤ er) && false)) := Lib.hid (by unfold mayF; rw [if_neg k1, if_neg k2, if_neg k3, if_neg k4])
  generalize mayF ⟨kd, tk, id, fl, nn, er, d⟩ = m at *
  generalize d.length = n at *
  go_enter Tryz.func36, Tryz.ntmps36
  go_wp2_with fail
  all_goals
    go_ret
    refine ⟨congrArg (fun b => Ending.returned (Value.bool b)) ?_, (Below.refl _ w).alloc (Nat.le_refl _) _⟩
    rw [HM.out, Bool.eq_iff_iff]
    first | (simp; done) | (simp; omega) | (simp <;> omega)
theorem rmay_any (x : En) (A : Option Addr) (c : Nat) (w : World) :
    Calls Tryz.prog 36 #[.agg #[.int .i64 x.kd, .int .u64 x.tk, .int .i64 x.id, .int .i64 x.fl, .int .i64 x.nn, .int .i64 x.er, .slice A x.dt.length c]] w fun e w' => e = .returned (.bool (mayF x)) ∧ Below w.heap.size w w' := by
  obtain ⟨kd, tk, id, fl, nn, er, dt⟩ := x
  simp only
  by_cases k1 : kd = 1
  · subst k1; exact rmay_1 tk id fl nn er dt A c w
  by_cases k2 : kd = 2
  · subst k2; exact rmay_2 tk id fl nn er dt A c w
  by_cases k3 : kd = 3
  · subst k3; exact rmay_3 tk id fl nn er dt A c w
  by_cases k4 : kd = 4
  · subst k4; exact rmay_4 tk id fl nn er dt A c w
  exact rmay_0 kd tk id fl nn er dt A c w k1 k2 k3 k4
end Go.Proofs.YtbanfkpfijcmcaaGreatDoor
