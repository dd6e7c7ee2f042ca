/- flag: drivers' features and words; masks out of range. -/
import Derived.Test.YtojempihchlgfaaDoorD
namespace Go.Proofs.YtojempihchlgfaaDoor
open Go.RowKit
set_option linter.unusedSimpArgs false
set_option linter.unusedVariables false

theorem wrap_zero (n : Nat) (h : n < 18446744073709551616) : IntKind.i64.wrap (n : Int) = 0 ↔ n = 0 := by
  simp [IntKind.wrap, IntKind.signed, IntKind.bits]
  split <;> omega
theorem mask15 (X : Nat) (h : X < 18446744073709551616) : X &&& 18446744073709551600 = 0 ↔ X ≤ 15 := by
  constructor
  · intro h0
    have h1 : (X &&& 18446744073709551600) >>> 4 = 0 := by rw [h0]; rfl
    rw [Nat.shiftRight_and_distrib, show (18446744073709551600 >>> 4 : Nat) = 2 ^ 60 - 1 by decide, Nat.and_two_pow_sub_one_eq_mod, Nat.shiftRight_eq_div_pow] at h1
    omega
  · intro h1
    have : ∀ n : Fin 16, n.val &&& 18446744073709551600 = 0 := by decide +kernel
    exact this ⟨X, by omega⟩
theorem andnot15 (x : Int) (h0 : -9223372036854775808 ≤ x) (h1 : x ≤ 9223372036854775807) : bits .andNot .i64 x 15 = 0 ↔ (0 ≤ x ∧ x ≤ 15) := by
  show IntKind.i64.wrap ((BitVec.ofInt 64 x &&& ~~~BitVec.ofInt 64 15).toNat : Int) = 0 ↔ _
  have hX : (BitVec.ofInt 64 x).toNat = (x % 18446744073709551616).toNat := by simp [BitVec.toNat_ofInt]
  have hl : (BitVec.ofInt 64 x).toNat < 18446744073709551616 := (BitVec.ofInt 64 x).isLt
  rw [BitVec.toNat_and, BitVec.toNat_not, show 2 ^ 64 - 1 - (BitVec.ofInt 64 15).toNat = 18446744073709551600 by decide]
  rw [wrap_zero _ (Nat.lt_of_le_of_lt Nat.and_le_left hl), mask15 _ hl, hX]
  omega

/-- The variable 'has' holds the features. -/
def Hs (w : World) : Prop := w.cell? ⟨0, 0, none⟩ = some (.int .i64 0) ∧ w.cell? ⟨0, 1, none⟩ = some (.int .i64 2) ∧ w.cell? ⟨0, 2, none⟩ = some (.int .i64 11) ∧ w.cell? ⟨0, 3, none⟩ = some (.int .i64 15)
/-- A driver's features. -/
def feat (d : Int) : Int := if d = 2 then 2 else if d = 3 then 11 else if d = 4 then 15 else 0
/-- A driver's word. -/
def nm (d : Int) : ByteArray := if d = 1 then ⟨#[115, 101, 108, 101, 99, 116]⟩ else if d = 2 then ⟨#[112, 111, 108, 108]⟩ else if d = 3 then ⟨#[101, 112, 111, 108, 108]⟩ else if d = 4 then ⟨#[107, 113, 117, 101, 117, 101]⟩ else ⟨#[]⟩

theorem known_yes (d : Int) (w : World) (h0 : 1 ≤ d) (h1 : d ≤ 4) : Calls Tryd.prog 35 #[.int .i64 d] w fun e w' => e = .returned (.bool true) ∧ w = w' := by
  go_enter Tryd.func35, Tryd.ntmps35
  go_wp2
  go_ret
  exact ⟨by first | rfl | (congr; simp; omega), rfl⟩
theorem known_no (d : Int) (w : World) (h : d < 1 ∨ 4 < d) : Calls Tryd.prog 35 #[.int .i64 d] w fun e w' => e = .returned (.bool false) ∧ w = w' := by
  rcases (show d < 1 ∨ (1 ≤ d ∧ 4 < d) by omega) with h | ⟨h', h⟩
  all_goals
    go_enter Tryd.func35, Tryd.ntmps35
    go_wp2
    go_ret
    exact ⟨by first | rfl | (congr; simp; omega), rfl⟩

theorem features_any (d : Int) (w : World) (hs : Hs w) : Calls Tryd.prog 16 #[.int .i64 d] w fun e w' => e = .returned (.int .i64 (feat d)) ∧ w = w' := by
  obtain ⟨c0, c1, c2, c3⟩ := hs
  rcases (show d = 1 ∨ d = 2 ∨ d = 3 ∨ d = 4 ∨ (d < 1 ∨ 4 < d) by omega) with rfl | rfl | rfl | rfl | h
  case inr.inr.inr.inr =>
    have H := Lib.hid h
    have hf : feat d = 0 := by unfold feat; rw [if_neg (by omega), if_neg (by omega), if_neg (by omega)]
    rw [hf]
    clear h hf
    go_enter Tryd.func16, Tryd.ntmps16
    go_wp2_with (go_at_call 35; refine (known_no d _ H.out).mono ?_; rintro e w' ⟨rfl, rfl⟩)
    go_ret
    exact ⟨rfl, rfl⟩
  all_goals
    go_enter Tryd.func16, Tryd.ntmps16
    go_wp2_with (go_at_call 35; refine (known_yes _ _ (by omega) (by omega)).mono ?_; rintro e w' ⟨rfl, rfl⟩)
    go_ret
    exact ⟨rfl, rfl⟩
theorem rfeatures_any (d : Int) (w : World) : Calls Tryd.prog 17 #[.int .i64 d] w fun e w' => e = .returned (.int .i64 (feat d)) ∧ w = w' := by
  rcases (show d = 2 ∨ d = 3 ∨ d = 4 ∨ (d ≠ 2 ∧ d ≠ 3 ∧ d ≠ 4) by omega) with rfl | rfl | rfl | ⟨h2, h3, h4⟩
  case inr.inr.inr =>
    have hf : feat d = 0 := by unfold feat; rw [if_neg h2, if_neg h3, if_neg h4]
    rw [hf]
    clear hf
    have e2 : (d == 2) = false := by simpa using h2
    have e3 : (d == 3) = false := by simpa using h3
    have e4 : (d == 4) = false := by simpa using h4
    clear h2 h3 h4
    go_enter Tryd.func17, Tryd.ntmps17
    go_wp2
    go_ret
    exact ⟨rfl, rfl⟩
  all_goals
    go_enter Tryd.func17, Tryd.ntmps17
    go_wp2
    go_ret
    exact ⟨rfl, rfl⟩
theorem name_any (d : Int) (w : World) (hw : Wd w) : Calls Tryd.prog 18 #[.int .i64 d] w fun e w' => e = .returned (.string (nm d)) ∧ w = w' := by
  obtain ⟨c0, c1, c2, c3, c4, c5⟩ := hw.t2
  clear hw
  rcases (show d = 1 ∨ d = 2 ∨ d = 3 ∨ d = 4 ∨ (d < 1 ∨ 4 < d) by omega) with rfl | rfl | rfl | rfl | h
  case inr.inr.inr.inr =>
    have H := Lib.hid h
    have hf : nm d = ⟨#[]⟩ := by unfold nm; rw [if_neg (by omega), if_neg (by omega), if_neg (by omega), if_neg (by omega)]
    rw [hf]
    clear h hf
    go_enter Tryd.func18, Tryd.ntmps18
    go_wp2_with (go_at_call 35; refine (known_no d _ H.out).mono ?_; rintro e w' ⟨rfl, rfl⟩)
    go_ret
    exact ⟨rfl, rfl⟩
  all_goals
    go_enter Tryd.func18, Tryd.ntmps18
    go_wp2_with (go_at_call 35; refine (known_yes _ _ (by omega) (by omega)).mono ?_; rintro e w' ⟨rfl, rfl⟩)
    go_ret
    exact ⟨rfl, rfl⟩
theorem rname_any (d : Int) (w : World) : Calls Tryd.prog 19 #[.int .i64 d] w fun e w' => e = .returned (.string (nm d)) ∧ w = w' := by
  rcases (show d = 1 ∨ d = 2 ∨ d = 3 ∨ d = 4 ∨ (d ≠ 1 ∧ d ≠ 2 ∧ d ≠ 3 ∧ d ≠ 4) by omega) with rfl | rfl | rfl | rfl | ⟨h1, h2, h3, h4⟩
  case inr.inr.inr.inr =>
    have hf : nm d = ⟨#[]⟩ := by unfold nm; rw [if_neg h1, if_neg h2, if_neg h3, if_neg h4]
    rw [hf]
    clear hf
    have e1 : (d == 1) = false := by simpa using h1
    have e2 : (d == 2) = false := by simpa using h2
    have e3 : (d == 3) = false := by simpa using h3
    have e4 : (d == 4) = false := by simpa using h4
    clear h1 h2 h3 h4
    go_enter Tryd.func19, Tryd.ntmps19
    go_wp2
    go_ret
    exact ⟨rfl, rfl⟩
  all_goals
    go_enter Tryd.func19, Tryd.ntmps19
    go_wp2
    go_ret
    exact ⟨rfl, rfl⟩
end Go.Proofs.YtojempihchlgfaaDoor
