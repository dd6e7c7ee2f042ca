/- text for every mask; Text, FeatText; alive. -/
import Derived.Test.YtbanfkpfijcmcaaDoorFM
namespace Go.Proofs.YtbanfkpfijcmcaaDoor.Fl
open Go.RowKit
set_option linter.unusedSimpArgs false
set_option linter.unusedVariables false
set_option maxRecDepth 100000

/-- The words of a mask, and the error. -/
def txL (T : Nat) (m : Int) : List UInt8 := if m < 0 ∨ 2 ^ nT T ≤ m then [] else if m = 0 then [110, 111, 110, 101] else Lib.join ((wds T (wb m.toNat (nT T))).map (·.data.toList)) [43]
def txE (T : Nat) (m : Int) : Int := if m < 0 ∨ 2 ^ nT T ≤ m then 50 else 0
def RT (T : Nat) (m : Int) (w : World) (e : Ending) (w' : World) : Prop := e = .returned (.tuple #[.string ⟨(txL T m).toArray⟩, .int .i64 (txE T m)]) ∧ Below w.heap.size w w'
theorem wrap_nT (T : Nat) : wrap64 (2 ^ nT T) = 2 ^ nT T := by unfold nT; split <;> decide +kernel
theorem pow_nT (T : Nat) : (2 : Int) ^ nT T = 16 ∨ (2 : Int) ^ nT T = 64 := by unfold nT; split <;> decide
theorem pow_nat (T : Nat) : ((2 ^ nT T : Nat) : Int) = (2 : Int) ^ nT T := by simp

set_option maxHeartbeats 1000000 in
theorem text_any (T : Nat) (m : Int) (w : World) (hw : Wd w) (hT : T < 2) : Calls Tryd.prog 42 #[.int .i64 (T : Int), .int .i64 m] w (RT T m w) := by
  have hp := pow_nT T
  by_cases hout : m < 0 ∨ 2 ^ nT T ≤ m
  · have h1 : txL T m = [] := by unfold txL; rw [if_pos hout]
    have h2 : txE T m = 50 := by unfold txE; rw [if_pos hout]
    unfold RT
    rw [h1, h2]
    clear h1 h2
    have HM := Lib.hid (many_any T w hw hT)
    have hnT : nT T ≤ 6 := by unfold nT; split <;> omega
    clear hw
    by_cases hneg : m < 0
    · clear hout hp
      have d1 : decide (m < 0) = true := decide_eq_true hneg
      go_enter Tryd.func42, Tryd.ntmps42
      go_wp2_with (go_at_call 56; refine HM.out.mono ?_; rintro e w' ⟨rfl, rfl⟩)
      go_ret2
      exact ⟨rfl, Below.refl _ _⟩
    · have d1 : decide (m < 0) = false := decide_eq_false hneg
      have d2 : decide (wrap64 (2 ^ nT T) ≤ m) = true := by rw [wrap_nT]; exact decide_eq_true (hout.resolve_left hneg)
      clear hout hp
      go_enter Tryd.func42, Tryd.ntmps42
      go_wp2_with (go_at_call 56; refine HM.out.mono ?_; rintro e w' ⟨rfl, rfl⟩)
      go_ret2
      exact ⟨rfl, Below.refl _ _⟩
  · by_cases h0 : m = 0
    · subst h0
      have h1 : txL T 0 = [110, 111, 110, 101] := by unfold txL; rw [if_neg hout, if_pos rfl]
      have h2 : txE T 0 = 0 := by unfold txE; rw [if_neg hout]
      unfold RT
      rw [h1, h2]
      clear h1 h2
      have HM := Lib.hid (many_any T w hw hT)
      have hnT : nT T ≤ 6 := by unfold nT; split <;> omega
      have d2 : decide (wrap64 (2 ^ nT T) ≤ 0) = false := by rw [wrap_nT]; exact decide_eq_false (by omega)
      have d1 : decide ((0 : Int) < 0) = false := by decide
      clear hw hout hp
      go_enter Tryd.func42, Tryd.ntmps42
      go_wp2_with (go_at_call 56; refine HM.out.mono ?_; rintro e w' ⟨rfl, rfl⟩)
      go_ret2
      exact ⟨rfl, Below.refl _ _⟩
    · obtain ⟨k, rfl⟩ := Int.eq_ofNat_of_zero_le (show 0 ≤ m by omega)
      have hk : k < 2 ^ nT T := by have := pow_nat T; omega
      refine ((callsIn_wide (n := 3)).1 (text_in 3 (Nat.le_refl _) T k w hw hT (by omega) hk)).mono ?_
      rintro e w' ⟨rfl, hb⟩
      refine ⟨?_, hb⟩
      have h1 : txL T (k : Int) = Lib.join ((wds T (wb k (nT T))).map (·.data.toList)) [43] := by unfold txL; rw [if_neg hout, if_neg h0, Int.toNat_natCast]
      have h2 : txE T (k : Int) = 0 := by unfold txE; rw [if_neg hout]
      rw [h1, h2]

theorem Text_any (m : Int) (w : World) (hw : Wd w) : Calls Tryd.prog 24 #[.int .i64 m] w (RT 0 m w) := by
  have H := Lib.hid (text_any 0 m w hw (by decide)); clear hw
  unfold RT at H ⊢
  generalize (⟨(txL 0 m).toArray⟩ : ByteArray) = s at *
  generalize txE 0 m = x at *
  go_enter Tryd.func24, Tryd.ntmps24
  go_wp2_with (go_at_call 42; refine H.out.mono ?_; rintro e w' ⟨rfl, hb⟩)
  go_ret2
  exact ⟨rfl, hb⟩
end Go.Proofs.YtbanfkpfijcmcaaDoor.Fl
