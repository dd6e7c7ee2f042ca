/- Seconds' ticks, plainly. No program in sight. -/
import Derived.Test.YtfjjmmaddcofkaaFw
namespace Go.Proofs.Ytfjjmmaddcofkaa
open Ieee
set_option linter.unusedSimpArgs false
set_option linter.unusedVariables false

/-- Two to the 64th. -/
def BEY : Nat := 0x43F0000000000000
theorem BEY_word : BEY = double.word false (1087 * 2 ^ 52) ∧ V (1087 * 2 ^ 52) = 2 ^ 64 * O := by decide +kernel
theorem V_zero : V 0 = 0 := by decide
theorem cmp_ge (a b : Int) : (some (compare a b) == some Ordering.gt || some (compare a b) == some Ordering.eq) = decide (b ≤ a) := by
  rcases Int.lt_trichotomy a b with h | h | h
  · rw [compare_lt h, decide_eq_false (by omega)]; rfl
  · subst h; rw [compare_self, decide_eq_true (by omega)]; rfl
  · rw [compare_gt h, decide_eq_true (by omega)]; rfl
theorem cmp_le (a b : Int) : (some (compare a b) == some Ordering.lt || some (compare a b) == some Ordering.eq) = decide (a ≤ b) := by
  rcases Int.lt_trichotomy a b with h | h | h
  · rw [compare_lt h, decide_eq_true (by omega)]; rfl
  · subst h; rw [compare_self, decide_eq_true (by omega)]; rfl
  · rw [compare_gt h, decide_eq_false (by omega)]; rfl
theorem cmp_lt (a b : Int) : (some (compare a b) == some Ordering.lt) = decide (a < b) := by
  rcases Int.lt_trichotomy a b with h | h | h
  · rw [compare_lt h, decide_eq_true (by omega)]; rfl
  · subst h; rw [compare_self, decide_eq_false (by omega)]; rfl
  · rw [compare_gt h, decide_eq_false (by omega)]; rfl
theorem ge_BEY {a : Nat} (h : a ≤ 2047 * 2 ^ 52) : (double.order (double.word false a) BEY == some .gt || double.order (double.word false a) BEY == some .eq) = decide (2 ^ 64 * O ≤ V a) := by
  rw [BEY_word.1, order_words _ _ h (by decide), cmp_ge, BEY_word.2]
  unfold sg
  simp only [Bool.false_eq_true, if_false]
  congr 1
  apply propext
  omega
theorem lt_word (s t : Bool) {a b : Nat} (ha : a ≤ 2047 * 2 ^ 52) (hb : b ≤ 2047 * 2 ^ 52) : (double.order (double.word s a) (double.word t b) == some .lt) = decide (sg s (V a) < sg t (V b)) := by
  rw [order_words _ _ ha hb, cmp_lt]
theorem le_word (s t : Bool) {a b : Nat} (ha : a ≤ 2047 * 2 ^ 52) (hb : b ≤ 2047 * 2 ^ 52) : (double.order (double.word s a) (double.word t b) == some .lt || double.order (double.word s a) (double.word t b) == some .eq) = decide (sg s (V a) ≤ sg t (V b)) := by
  rw [order_words _ _ ha hb, cmp_le]
/-- The product with a thousand, and what it is rounded up to. -/
def xr (r : Nat) : Nat := R (V r * 1000)
def nr (r : Nat) : Nat := R (cd (V (xr r)) * O)
theorem xr_top (r : Nat) : xr r ≤ 2047 * 2 ^ 52 := R_top _
theorem nr_top (r : Nat) : nr r ≤ 2047 * 2 ^ 52 := R_top _
/-- The ticks of seconds. -/
def secs (r : Nat) : Nat := if 2 ^ 64 * O ≤ V (xr r) then 2 ^ 64 - 1 else cd (V (xr r))
theorem far_inf : 2 ^ 64 * O ≤ V (2047 * 2 ^ 52) := by decide +kernel
theorem near {r : Nat} (h : ¬ 2 ^ 64 * O ≤ V r) (ht : r ≤ 2047 * 2 ^ 52) : r < 2047 * 2 ^ 52 := by
  rcases Nat.lt_or_eq_of_le ht with c | c
  · exact c
  · subst c; exact absurd far_inf h
theorem nr_inf {r : Nat} (h : xr r = 2047 * 2 ^ 52) : nr r = 2047 * 2 ^ 52 := by
  unfold nr
  rw [h]
  have e : cd (V (2047 * 2 ^ 52)) * O = V (2047 * 2 ^ 52) := (cd_whole (by rw [V_top]; exact O_dvd)).2
  rw [e, R_V' (Nat.le_refl _)]
theorem far_both (r : Nat) : 2 ^ 64 * O ≤ V (nr r) ↔ 2 ^ 64 * O ≤ V (xr r) := by
  rcases Nat.lt_or_eq_of_le (xr_top r) with c | c
  · unfold nr
    rw [exact_cd c]; exact far_cd c
  · rw [nr_inf c, c]
theorem nr_val {r : Nat} (h : ¬ 2 ^ 64 * O ≤ V (xr r)) : V (nr r) / O = cd (V (xr r)) ∧ cd (V (xr r)) < 2 ^ 64 := by
  have c := near h (xr_top r)
  have e : V (nr r) = cd (V (xr r)) * O := by unfold nr; exact exact_cd c
  constructor
  · rw [e, Nat.mul_div_cancel _ O_pos]
  · have h2 := mt (far_cd c).1 h
    rcases Nat.lt_or_ge (cd (V (xr r))) (2 ^ 64) with d | d
    · exact d
    · exact absurd (Nat.mul_le_mul_right O d) h2
theorem xr_val {r : Nat} (h : ¬ 2 ^ 64 * O ≤ V (xr r)) : cd (V (xr r)) = V (xr r) / O + (if V (R (V (xr r) / O * O)) < V (xr r) then 1 else 0) ∧ V (xr r) / O < 2 ^ 64 := by
  have c := near h (xr_top r)
  rw [exact_fl c]
  refine ⟨cd_eq _, (Nat.div_lt_iff_lt_mul O_pos).2 (Nat.not_le.1 h)⟩
theorem secs_lt (r : Nat) : secs r < 2 ^ 64 := by
  unfold secs
  split
  · decide
  · rename_i h; exact (nr_val h).2
theorem secs_mono {a b : Nat} (h : V a ≤ V b) : secs a ≤ secs b := by
  have h1 : V (xr a) ≤ V (xr b) := V_le (R_mono (Nat.mul_le_mul_right 1000 h)) (xr_top b)
  by_cases hb : 2 ^ 64 * O ≤ V (xr b)
  · have := secs_lt a
    have e : secs b = 2 ^ 64 - 1 := if_pos hb
    rw [e]
    exact Nat.le_pred_of_lt this
  · have ha : ¬ 2 ^ 64 * O ≤ V (xr a) := fun h => hb (Nat.le_trans h h1)
    unfold secs
    rw [if_neg hb, if_neg ha]
    exact cd_mono h1
theorem secs_zero : secs 0 = 0 := by decide +kernel
end Go.Proofs.Ytfjjmmaddcofkaa
