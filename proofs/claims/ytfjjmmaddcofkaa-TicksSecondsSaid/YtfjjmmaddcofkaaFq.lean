/- Quotients and doublings, plainly. No program in sight. -/
import Derived.Test.YtfjjmmaddcofkaaFs
namespace Go.Proofs.Ytfjjmmaddcofkaa
open Ieee
set_option linter.unusedSimpArgs false
set_option linter.unusedVariables false

theorem nearest_any (neg : Bool) (m : Nat) (e : Int) : ∃ r, r ≤ 2047 * 2 ^ 52 ∧ double.nearest neg m e = double.word neg r := by
  refine ⟨rung (-1074 - e).toNat (m * 2 ^ (e + 1074).toNat), ?_, nearest_rung neg m e _ _ (by omega)⟩
  unfold rung
  split
  · exact Nat.zero_le _
  · exact Nat.min_le_right _ _
theorem word_lt (neg : Bool) {r : Nat} (h : r ≤ 2047 * 2 ^ 52) : double.word neg r < 2 ^ 64 := by
  have h2 : r < 2 ^ 63 := Nat.lt_of_le_of_lt h top_lt
  rw [word_eq, show (2 ^ 64 : Nat) = 2 ^ 63 + 2 ^ 63 by decide]
  generalize (2 ^ 63 : Nat) = B at *
  split <;> omega
theorem order_self (neg : Bool) {r : Nat} (h : r ≤ 2047 * 2 ^ 52) : (double.order (double.word neg r) (double.word neg r) == some .eq) = true := by
  rw [order_words _ _ h h, compare_self]; rfl
theorem div_word (neg : Bool) {r : Nat} (h : r ≤ 2047 * 2 ^ 52) : ∃ q, q ≤ 2047 * 2 ^ 52 ∧ double.div (double.word neg r) K = some (double.word neg q) := by
  unfold Format.div
  rw [K_word.2]
  rcases Nat.lt_or_eq_of_le h with c | c
  · obtain ⟨m, k, h1, h2⟩ := read_num neg c
    rw [h1]
    unfold Datum.quotient
    simp only []
    rw [if_neg (by decide), Option.map_some, Bool.xor_false]
    obtain ⟨q, e1, e2⟩ := nearest_any neg (2 * (m <<< (double.fractionBits + 2 + (1000 * 2 ^ 43 : Nat).log2 - m.log2) / (1000 * 2 ^ 43)) + (m <<< (double.fractionBits + 2 + (1000 * 2 ^ 43 : Nat).log2 - m.log2) % (1000 * 2 ^ 43) != 0).toNat) (-1074 + (k : Int) - (-1074 + (1031 : Nat)) - (double.fractionBits + 2 + (1000 * 2 ^ 43 : Nat).log2 - m.log2 : Nat) - 1)
    exact ⟨q, e1, congrArg some e2⟩
  · rw [c, read_inf]
    refine ⟨_, Nat.le_refl _, ?_⟩
    unfold Datum.quotient
    simp only []
    rw [Option.map_some, Bool.xor_false]
    rfl
def TWO : Nat := 0x4000000000000000
theorem TWO_word : double.read TWO = .number false (2 ^ 52) (-1074 + (1023 : Nat)) := by decide +kernel
theorem mul_two {r : Nat} (h : r ≤ 2047 * 2 ^ 52) : double.mul (double.word false r) TWO = some (double.word false (R (V r * 2))) := by
  unfold Format.mul
  rw [TWO_word]
  rcases Nat.lt_or_eq_of_le h with c | c
  · obtain ⟨m, k, h1, h2⟩ := read_num false c
    rw [h1]
    unfold Datum.product
    rw [Option.map_some, Bool.xor_false, show (-1074 + (k : Int) + (-1074 + (1023 : Nat)) : Int) = -1074 - ((51 : Nat) : Int) + (k : Int) by omega, write_num, ← h2]
    rw [show m * 2 ^ 52 * 2 ^ k = (m * 2 ^ k * 2) * 2 ^ 51 by
      rw [show (2 ^ 52 : Nat) = 2 * 2 ^ 51 by decide]
      generalize (2 ^ 51 : Nat) = B
      generalize (2 ^ k : Nat) = C
      rw [← Nat.mul_assoc, Nat.mul_right_comm _ B C, Nat.mul_right_comm m 2 C], rung_shift]
  · rw [c, read_inf]
    have e : (Datum.infinity false).product (.number false (2 ^ 52) (-1074 + (1023 : Nat))) = some (.infinity (false ^^ false)) := by
      unfold Datum.product
      exact if_neg (by decide)
    rw [e, Option.map_some, Bool.xor_false, V_top, R_inf (Nat.le_mul_of_pos_right _ (by decide))]
    rfl
/-- One, doubled so often. -/
def dbl (i : Nat) : Nat := min ((1023 + i) * 2 ^ 52) (2047 * 2 ^ 52)
theorem dbl_top (i : Nat) : dbl i ≤ 2047 * 2 ^ 52 := Nat.min_le_right _ _
theorem dbl_all : (List.range 1025).all (fun i => R (V (dbl i) * 2) == dbl (i + 1)) = true := by decide +kernel
theorem dbl_far {i : Nat} (h : 1024 ≤ i) : dbl i = 2047 * 2 ^ 52 := Nat.min_eq_right (Nat.mul_le_mul_right _ (by omega))
theorem dbl_step (i : Nat) : R (V (dbl i) * 2) = dbl (i + 1) := by
  rcases Nat.lt_or_ge i 1025 with c | c
  · have := List.all_eq_true.1 dbl_all i (List.mem_range.2 c)
    exact eq_of_beq this
  · rw [dbl_far (by omega), dbl_far (by omega), V_top, R_inf (Nat.le_mul_of_pos_right _ (by decide))]
/-- The word of one doubled i times. -/
def dw (i : Nat) : Nat := double.word false (dbl i)
theorem dw_step (i : Nat) : double.mul (dw i) TWO = some (dw (i + 1)) := by
  unfold dw; rw [mul_two (dbl_top i), dbl_step]
theorem dw_zero : dw 0 = 0x3FF0000000000000 := by decide +kernel
theorem dw_end : dw 2000 = 0x7FF0000000000000 := by unfold dw; rw [dbl_far (by omega)]; decide +kernel
end Go.Proofs.Ytfjjmmaddcofkaa
