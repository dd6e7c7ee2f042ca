/- flag: May, Ready beside the document's. -/
import Derived.Test.YtojempihchlgfaaDoorA
namespace Go.Proofs.YtojempihchlgfaaDoor
open Go.RowKit
set_option linter.unusedSimpArgs false
set_option linter.unusedVariables false

theorem bit_any (m b : Int) (w : World) (h0 : 0 ≤ m) (h1 : m ≤ 255) (b0 : 1 ≤ b) (b1 : b ≤ 64) :
    Calls Tryd.prog 33 #[.int .i64 m, .int .i64 b] w fun e w' => e = .returned (.bool (m / b % 2 == 1)) ∧ w = w' := by
  have q0 : 0 ≤ m / b := Int.ediv_nonneg h0 (by omega)
  have q1 : m / b ≤ m := Int.ediv_le_self _ h0
  generalize hq : m / b = q at *
  go_enter Tryd.func33, Tryd.ntmps33
  go_wp2
  go_ret
  exact ⟨rfl, rfl⟩

/-- What May comes to, of masks of six bits. -/
def fMay (m : Int) : Bool := if bits .and .i64 m 1 != 0 then false else if bits .and .i64 m 8 != 0 then bits .and .i64 m 38 == 0 else (bits .and .i64 m 32 == 0 || bits .and .i64 m 6 != 0)
def rMay (m : Int) : Bool := if m / 1 % 2 == 1 then false else if m / 8 % 2 == 1 then (!(m / 2 % 2 == 1) && !(m / 4 % 2 == 1) && !(m / 32 % 2 == 1)) else (!(m / 32 % 2 == 1) || m / 2 % 2 == 1 || m / 4 % 2 == 1)
def fReady (w i : Int) : Int := if bits .and .i64 (bits .and .i64 w i) 14 != 0 then bits .or .i64 (bits .or .i64 (bits .and .i64 (bits .and .i64 w i) 14) (bits .and .i64 w 32)) (bits .and .i64 i 1) else bits .or .i64 (bits .and .i64 (bits .and .i64 w i) 14) (bits .and .i64 i 1)
def sB (w i b : Int) : Int := if (w / b % 2 == 1) && (i / b % 2 == 1) then b else 0
def rReady (w i : Int) : Int :=
  (if decide (sB w i 2 + sB w i 4 + sB w i 8 > 0) && (w / 32 % 2 == 1) then sB w i 2 + sB w i 4 + sB w i 8 + 32 else sB w i 2 + sB w i 4 + sB w i 8) + (if i / 1 % 2 == 1 then 1 else 0)

theorem may_same (m : Int) (h0 : 0 ≤ m) (h1 : m < 64) : fMay m = rMay m := by
  have h : ∀ n : Fin 64, fMay (n.val : Int) = rMay (n.val : Int) := by decide +kernel
  have := h ⟨m.toNat, by omega⟩
  simpa [Int.toNat_of_nonneg h0] using this
theorem ready_same (w i : Int) (h0 : 0 ≤ w) (h1 : w < 64) (i0 : 0 ≤ i) (i1 : i < 64) : fReady w i = rReady w i := by
  have h : ∀ n k : Fin 64, fReady (n.val : Int) (k.val : Int) = rReady (n.val : Int) (k.val : Int) := by decide +kernel
  have := h ⟨w.toNat, by omega⟩ ⟨i.toNat, by omega⟩
  simpa [Int.toNat_of_nonneg h0, Int.toNat_of_nonneg i0] using this

theorem may_f (m : Int) (w : World) (hw : Wd w) (h0 : 0 ≤ m) (h1 : m < 64) :
    Calls Tryd.prog 10 #[.int .i64 m] w fun e w' => e = .returned (.bool (fMay m)) ∧ w = w' := by
  have HW := Lib.hid hw; clear hw
  generalize hg : fMay m = g
  unfold fMay at hg
  have d0 : decide (m < 0) = false := decide_eq_false (by omega)
  have d1 : decide (64 ≤ m) = false := decide_eq_false (by omega)
  cases k1 : (bits .and .i64 m 1 != 0) <;> rw [k1] at hg <;> cases k8 : (bits .and .i64 m 8 != 0) <;> rw [k8] at hg <;> cases k32 : (bits .and .i64 m 32 == 0) <;> rw [k32] at hg
  all_goals
    simp only [if_true, if_false, Bool.false_eq_true, Bool.true_or, Bool.false_or] at hg
    have HG := Lib.hid hg; clear hg
    go_enter Tryd.func10, Tryd.ntmps10
    go_wp2_with (go_at_call 32; refine (many0 _ HW.out).mono ?_; rintro e w' ⟨rfl, rfl⟩)
  all_goals
    go_ret
    exact ⟨by rw [← HG.out]; simp_all, rfl⟩

theorem may_out (m : Int) (w : World) (hw : Wd w) (h : m < 0 ∨ 64 ≤ m) :
    Calls Tryd.prog 10 #[.int .i64 m] w fun e w' => e = .returned (.bool false) ∧ w = w' := by
  have HW := Lib.hid hw; clear hw
  rcases (show m < 0 ∨ (0 ≤ m ∧ 64 ≤ m) by omega) with h | ⟨h', h⟩
  all_goals
    have d0 : decide (m < 0) = true ∨ decide (64 ≤ m) = true := by simp; omega
    go_enter Tryd.func10, Tryd.ntmps10
    go_wp2_with (go_at_call 32; refine (many0 _ HW.out).mono ?_; rintro e w' ⟨rfl, rfl⟩)
  all_goals first
    | (go_ret; exact ⟨rfl, rfl⟩)
    | (exfalso; simp_all; omega)

set_option maxHeartbeats 2000000 in
theorem rmay_in (m : Int) (w : World) (h0 : 0 ≤ m) (h1 : m < 64) :
    Calls Tryd.prog 11 #[.int .i64 m] w fun e w' => e = .returned (.bool (rMay m)) ∧ w = w' := by
  generalize hg : rMay m = g
  unfold rMay at hg
  have d0 : decide (m < 0) = false := decide_eq_false (by omega)
  have d1 : decide (63 < m) = false := decide_eq_false (by omega)
  cases k1 : (m / 1 % 2 == 1) <;> cases k8 : (m / 8 % 2 == 1) <;> cases k2 : (m / 2 % 2 == 1) <;> cases k4 : (m / 4 % 2 == 1) <;> cases k32 : (m / 32 % 2 == 1)
  all_goals
    rw [k1, k8, k2, k4, k32] at hg
    simp only [if_true, if_false, Bool.false_eq_true, Bool.true_or, Bool.false_or, Bool.or_true, Bool.or_false, Bool.not_true, Bool.not_false, Bool.and_true, Bool.and_false, Bool.true_and, Bool.false_and] at hg
    subst hg
    have K1 := Lib.hid k1; have K8 := Lib.hid k8; have K2 := Lib.hid k2; have K4 := Lib.hid k4; have K32 := Lib.hid k32
    clear k1 k8 k2 k4 k32
    go_enter Tryd.func11, Tryd.ntmps11
    go_wp2_with (go_at_call 33; refine (bit_any m _ _ h0 (by omega) (by omega) (by omega)).mono ?_; rintro e w' ⟨he, rfl⟩; (first | rw [K1.out] at he | rw [K8.out] at he | rw [K2.out] at he | rw [K4.out] at he | rw [K32.out] at he); subst he)
    go_ret
    exact ⟨rfl, rfl⟩
end Go.Proofs.YtojempihchlgfaaDoor
