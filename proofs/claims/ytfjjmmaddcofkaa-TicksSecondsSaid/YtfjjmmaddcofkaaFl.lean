/- Doubles, plainly: what a word is worth, rounding, and that it keeps the order. No program in sight. -/
import Ieee.Arith
namespace Go.Proofs.Ytfjjmmaddcofkaa
open Ieee
set_option linter.unusedSimpArgs false
set_option linter.unusedVariables false

/-- X / 2 ^ l, to the nearest, between two the even one. -/
def rhe (X l : Nat) : Nat := X / 2 ^ l + (if 2 ^ l < 2 * (X % 2 ^ l) ∨ (2 ^ l = 2 * (X % 2 ^ l) ∧ X / 2 ^ l % 2 = 1) then 1 else 0)
theorem log_lt (n : Nat) : n < 2 ^ (n.log2 + 1) := Nat.lt_log2_self
theorem pow_le {a b : Nat} (h : a ≤ b) : 2 ^ a ≤ 2 ^ b := Nat.pow_le_pow_right (by omega) h
theorem pow_pos (a : Nat) : 0 < 2 ^ a := Nat.pow_pos (by omega)
theorem gap_far {n d : Nat} (h : n.log2 + 2 < d) : n < 2 ^ (n.log2 + 2) ∧ 2 * n < 2 ^ (n.log2 + 2) ∧ 2 ^ (n.log2 + 2) ≤ 2 ^ d := by
  have h1 := log_lt n
  have h2 : 2 ^ (n.log2 + 2) = 2 * 2 ^ (n.log2 + 1) := by rw [Nat.pow_succ 2 (n.log2 + 1), Nat.mul_comm]
  refine ⟨by omega, by omega, pow_le (by omega)⟩
theorem cut_even (neg : Bool) (n d : Nat) : Toward.even.cut neg n d = rhe n d := by
  unfold Toward.cut rhe
  by_cases h : d ≤ n.log2 + 2
  · rw [Nat.min_eq_left h, Nat.one_shiftLeft]
    simp only [Bool.or_eq_true, Bool.and_eq_true, decide_eq_true_eq, beq_iff_eq]
    generalize n / 2 ^ d = q
    generalize 2 ^ d = g
    generalize n % g = r
    by_cases c1 : g < 2 * r
    · simp [c1]
    · by_cases c2 : g = 2 * r ∧ q % 2 = 1
      · simp [c1, c2.1, c2.2]
      · rw [if_neg (by intro h; rcases h with h | h; exact c1 h; exact c2 h)]
        simp only [c1, decide_false, Bool.false_or]
        have : (g == 2 * r && q % 2 == 1) = false := by
          rw [Bool.eq_false_iff]; intro e
          simp only [Bool.and_eq_true, beq_iff_eq] at e
          exact c2 e
        simp [this]
  · obtain ⟨h1, h2, h3⟩ := gap_far (n := n) (d := d) (by omega)
    rw [Nat.min_eq_right (by omega), Nat.one_shiftLeft]
    have q1 : n / 2 ^ (n.log2 + 2) = 0 := Nat.div_eq_of_lt h1
    have q2 : n % 2 ^ (n.log2 + 2) = n := Nat.mod_eq_of_lt h1
    have q3 : n / 2 ^ d = 0 := Nat.div_eq_of_lt (by omega)
    have q4 : n % 2 ^ d = n := Nat.mod_eq_of_lt (by omega)
    dsimp only
    rw [q1, q2, q3, q4, if_neg (by omega)]
    have c1 : ¬ 2 ^ (n.log2 + 2) < 2 * n := by omega
    have c2 : (2 ^ (n.log2 + 2) == 2 * n) = false := by rw [beq_eq_false_iff_ne]; omega
    simp [c1, c2]
theorem cut_up (n d : Nat) : Toward.up.cut false n d = (n + 2 ^ d - 1) / 2 ^ d := by
  have key : ∀ g : Nat, 0 < g → n / g + (n % g != 0).toNat = (n + g - 1) / g := by
    intro g hg
    have hd := Nat.div_add_mod n g
    have hm := Nat.mod_lt n hg
    generalize n / g = q at *
    generalize n % g = r at *
    subst hd
    by_cases hr : r = 0
    · subst hr
      have : (g * q + 0 + g - 1) / g = q := by
        rw [show g * q + 0 + g - 1 = g - 1 + g * q by omega, Nat.add_mul_div_left _ _ hg, Nat.div_eq_of_lt (by omega)]; omega
      rw [this]; rfl
    · have h2 : (r != 0) = true := by simpa using hr
      rw [h2, show g * q + r + g - 1 = (r - 1) + g * (q + 1) by rw [Nat.mul_add]; omega, Nat.add_mul_div_left _ _ hg, Nat.div_eq_of_lt (by omega)]
      simp
  unfold Toward.cut
  simp only [Bool.not_false, Bool.true_and]
  by_cases h : d ≤ n.log2 + 2
  · rw [Nat.min_eq_left h, Nat.one_shiftLeft]
    exact key _ (pow_pos d)
  · obtain ⟨h1, h2, h3⟩ := gap_far (n := n) (d := d) (by omega)
    rw [Nat.min_eq_right (by omega), Nat.one_shiftLeft, key _ (pow_pos _)]
    have e1 := key _ (pow_pos (n.log2 + 2))
    have e2 := key _ (pow_pos d)
    rw [← e1, ← e2, Nat.div_eq_of_lt h1, Nat.mod_eq_of_lt h1, Nat.div_eq_of_lt (show n < 2 ^ d by omega), Nat.mod_eq_of_lt (show n < 2 ^ d by omega)]
theorem cut_zero (neg : Bool) (n d : Nat) : Toward.zero.cut neg n d = n / 2 ^ d := by
  unfold Toward.cut
  simp only [Bool.toNat_false, Nat.add_zero]
  by_cases h : d ≤ n.log2 + 2
  · rw [Nat.min_eq_left h, Nat.one_shiftLeft]
  · obtain ⟨h1, h2, h3⟩ := gap_far (n := n) (d := d) (by omega)
    rw [Nat.min_eq_right (by omega), Nat.one_shiftLeft, Nat.div_eq_of_lt h1, Nat.div_eq_of_lt (show n < 2 ^ d by omega)]
theorem rhe_scale (X l k : Nat) : rhe (X * 2 ^ k) (l + k) = rhe X l := by
  unfold rhe
  have hk := pow_pos k
  rw [Nat.pow_add, Nat.mul_div_mul_right _ _ hk, Nat.mul_mod_mul_right]
  have e1 : (2 ^ l * 2 ^ k < 2 * (X % 2 ^ l * 2 ^ k)) ↔ 2 ^ l < 2 * (X % 2 ^ l) := by
    rw [← Nat.mul_assoc]; exact Nat.mul_lt_mul_right hk
  have e2 : (2 ^ l * 2 ^ k = 2 * (X % 2 ^ l * 2 ^ k)) ↔ 2 ^ l = 2 * (X % 2 ^ l) := by
    rw [← Nat.mul_assoc]; exact Nat.mul_left_inj (by omega)
  simp only [e1, e2]
theorem rhe_mono {X Y : Nat} (l : Nat) (h : X ≤ Y) : rhe X l ≤ rhe Y l := by
  unfold rhe
  have hq : X / 2 ^ l ≤ Y / 2 ^ l := Nat.div_le_div_right h
  by_cases e : X / 2 ^ l = Y / 2 ^ l
  · have hr : X % 2 ^ l ≤ Y % 2 ^ l := by
      have h1 := Nat.div_add_mod X (2 ^ l)
      have h2 := Nat.div_add_mod Y (2 ^ l)
      rw [e] at h1
      omega
    rw [e]
    split
    · rename_i c
      rw [if_pos (by omega)]
      exact Nat.le_refl _
    · split <;> omega
  · split <;> split <;> omega
theorem rhe_div {X l : Nat} (h : 2 ^ l ∣ X) : rhe X l = X / 2 ^ l := by
  unfold rhe
  have hl := pow_pos l
  rw [Nat.mod_eq_zero_of_dvd h, if_neg (by omega)]
  rfl
theorem rhe_top {X l : Nat} (h : X < 2 ^ (l + 53)) : rhe X l ≤ 2 ^ 53 := by
  have h1 := rhe_mono l (Nat.le_of_lt h)
  rw [rhe_div (X := 2 ^ (l + 53)) ⟨2 ^ 53, by rw [Nat.pow_add]⟩, Nat.pow_add, Nat.mul_div_cancel_left _ (pow_pos l)] at h1
  exact h1
theorem rhe_bot {X l : Nat} (h : 2 ^ (l + 52) ≤ X) : 2 ^ 52 ≤ rhe X l := by
  have h1 := rhe_mono l h
  rw [rhe_div ⟨2 ^ 52, by rw [Nat.pow_add]⟩, Nat.pow_add, Nat.mul_div_cancel_left _ (pow_pos l)] at h1
  exact h1
theorem log_mono {X Y : Nat} (h0 : X ≠ 0) (h : X ≤ Y) : X.log2 ≤ Y.log2 := by
  rcases Nat.lt_or_ge Y.log2 X.log2 with hl | hl
  · exfalso
    have h1 := log_lt Y
    have h2 := Nat.log2_self_le h0
    have h3 := pow_le (show Y.log2 + 1 ≤ X.log2 by omega)
    omega
  · exact hl
/-- The place of the last digit that is kept, over L. -/
def plc (L X : Nat) : Nat := max (X.log2 - 52) L
/-- The rung nearest to X, in units of 2 ^ (-1074 - L). -/
def rung (L X : Nat) : Nat := if X = 0 then 0 else min ((plc L X - L) * 2 ^ 52 + rhe X (plc L X)) (2047 * 2 ^ 52)
theorem plc_top {L X : Nat} : X < 2 ^ (plc L X + 53) := by
  have h1 := log_lt X
  have h2 := pow_le (show X.log2 + 1 ≤ plc L X + 53 by unfold plc; omega)
  omega
theorem plc_bot {L X : Nat} (h0 : X ≠ 0) (h : L < plc L X) : 2 ^ (plc L X + 52) ≤ X := by
  have h1 := Nat.log2_self_le h0
  have h2 := pow_le (show plc L X + 52 ≤ X.log2 by unfold plc at *; omega)
  omega
theorem rung_mono (L : Nat) {X Y : Nat} (h : X ≤ Y) : rung L X ≤ rung L Y := by
  unfold rung
  obtain ⟨B, hB, hB2⟩ : ∃ B : Nat, 2 ^ 52 = B ∧ 2 ^ 53 = 2 * B := ⟨_, rfl, rfl⟩
  by_cases hX : X = 0
  · rw [if_pos hX]; exact Nat.zero_le _
  · have hY : Y ≠ 0 := by omega
    rw [if_neg hX, if_neg hY]
    have hp : plc L X ≤ plc L Y := by have := log_mono hX h; unfold plc; omega
    have hL : L ≤ plc L X := by unfold plc; omega
    have key : (plc L X - L) * 2 ^ 52 + rhe X (plc L X) ≤ (plc L Y - L) * 2 ^ 52 + rhe Y (plc L Y) := by
      by_cases e : plc L X = plc L Y
      · rw [e]; have := rhe_mono (plc L Y) h; omega
      · have h1 := rhe_top (plc_top (L := L) (X := X))
        have h2 := rhe_bot (plc_bot (L := L) hY (by omega))
        obtain ⟨d, hd⟩ : ∃ d, plc L Y - L = (plc L X - L) + 1 + d := ⟨plc L Y - L - (plc L X - L) - 1, by omega⟩
        rw [hB2] at h1
        rw [hB] at h2 ⊢
        rw [hd, Nat.add_mul, Nat.add_mul, Nat.one_mul]
        generalize (plc L X - L) * B = z
        generalize d * B = y
        generalize rhe X (plc L X) = r1 at *
        generalize rhe Y (plc L Y) = r2 at *
        clear hB hB2
        omega
    rw [hB] at key ⊢
    generalize (plc L X - L) * B + rhe X (plc L X) = u at *
    generalize (plc L Y - L) * B + rhe Y (plc L Y) = v at *
    generalize 2047 * B = t
    clear hB hB2
    omega
/-- 'nearest', plainly. -/
theorem nearest_rung (neg : Bool) (m : Nat) (e : Int) (L k : Nat) (he : e = -1074 - (L : Int) + k) : double.nearest neg m e = double.word neg (rung L (m * 2 ^ k)) := by
  unfold Format.nearest rung
  by_cases hm : m = 0
  · subst hm; simp
  · have hk := pow_pos k
    have hmk : m * 2 ^ k ≠ 0 := by intro h; rcases Nat.mul_eq_zero.1 h with h | h <;> omega
    rw [if_neg hm, if_neg hmk]
    have hlog : (m * 2 ^ k).log2 = m.log2 + k := by
      have a1 := log_lt m
      have a2 := Nat.log2_self_le hm
      rw [Nat.log2_eq_iff hmk]
      constructor
      · rw [Nat.pow_add]; exact Nat.mul_le_mul_right _ a2
      · rw [show m.log2 + k + 1 = (m.log2 + 1) + k by omega, Nat.pow_add]; exact (Nat.mul_lt_mul_right hk).2 a1
    have hlp : double.leastPlace = -1074 := by decide
    have hlast : max (e + (m.log2 : Int) - (double.fractionBits : Int)) double.leastPlace = -1074 - (L : Int) + (plc L (m * 2 ^ k) : Int) := by
      rw [hlp, show (double.fractionBits : Int) = 52 from rfl]
      unfold plc
      rw [hlog, he]
      omega
    simp only [hlast]
    rw [hlp, cut_even]
    have e1 : (-1074 - (L : Int) + (plc L (m * 2 ^ k) : Int) - -1074).toNat = plc L (m * 2 ^ k) - L := by omega
    have e2 : (e - (-1074 - (L : Int) + (plc L (m * 2 ^ k) : Int))).toNat = k - plc L (m * 2 ^ k) := by omega
    have e3 : (-1074 - (L : Int) + (plc L (m * 2 ^ k) : Int) - e).toNat = plc L (m * 2 ^ k) - k := by omega
    rw [e1, e2, e3]
    have hb : double.binade = 2 ^ 52 := rfl
    have hi : double.infRung = 2047 * 2 ^ 52 := rfl
    rw [hb, hi]
    have hr : rhe (m <<< (k - plc L (m * 2 ^ k))) (plc L (m * 2 ^ k) - k) = rhe (m * 2 ^ k) (plc L (m * 2 ^ k)) := by
      generalize plc L (m * 2 ^ k) = p
      rw [Nat.shiftLeft_eq]
      by_cases hp : p ≤ k
      · have h1 := rhe_scale (m * 2 ^ (k - p)) 0 p
        rw [Nat.mul_assoc, ← Nat.pow_add, show k - p + p = k by omega, Nat.zero_add] at h1
        rw [h1, show p - k = 0 by omega]
      · have h1 := rhe_scale m (p - k) k
        rw [show p - k + k = p by omega] at h1
        rw [h1, show k - p = 0 by omega, Nat.pow_zero, Nat.mul_one]
    rw [hr]
end Go.Proofs.Ytfjjmmaddcofkaa
