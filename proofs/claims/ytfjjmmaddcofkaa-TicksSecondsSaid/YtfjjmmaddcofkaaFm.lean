/- Doubles, plainly: a rung's worth, products, made whole, orders. No program in sight. -/
import Derived.Test.YtfjjmmaddcofkaaFl
namespace Go.Proofs.Ytfjjmmaddcofkaa
open Ieee
set_option linter.unusedSimpArgs false
set_option linter.unusedVariables false

/-- What a rung is worth, in units of 2 ^ -1074. -/
def V (r : Nat) : Nat := if r < 2 ^ 52 then r else (2 ^ 52 + r % 2 ^ 52) * 2 ^ (r / 2 ^ 52 - 1)
/-- One, in these units. -/
def O : Nat := 2 ^ 1074
theorem O_pow {b : Nat} (h : b = 1074) : 2 ^ b = O := by subst h; decide +kernel
/-- From here on a double is an infinity, in these units. -/
def TP : Nat := 2 ^ 53 * 2 ^ 2045
theorem TP_pow {a b : Nat} (ha : a = 52) (hb : b = 2046) : TP = 2 ^ a * 2 ^ b := by subst ha; subst hb; decide +kernel
/-- A number of the units, rounded. -/
def R (X : Nat) : Nat := rung 0 X
theorem O_pos : 0 < O := by decide +kernel
theorem rung_shift (k X : Nat) : rung k (X * 2 ^ k) = R X := by
  unfold R rung
  by_cases hX : X = 0
  · subst hX; simp
  · have hk := pow_pos k
    have hmk : X * 2 ^ k ≠ 0 := by intro h; rcases Nat.mul_eq_zero.1 h with h | h <;> omega
    rw [if_neg hX, if_neg hmk]
    have hlog : (X * 2 ^ k).log2 = X.log2 + k := by
      have a1 := log_lt X
      have a2 := Nat.log2_self_le hX
      rw [Nat.log2_eq_iff hmk]
      constructor
      · rw [Nat.pow_add]; exact Nat.mul_le_mul_right _ a2
      · rw [show X.log2 + k + 1 = (X.log2 + 1) + k by omega, Nat.pow_add]; exact (Nat.mul_lt_mul_right hk).2 a1
    have hp : plc k (X * 2 ^ k) = plc 0 X + k := by unfold plc; rw [hlog]; omega
    rw [hp, rhe_scale, show plc 0 X + k - k = plc 0 X - 0 by omega]
theorem R_mono {X Y : Nat} (h : X ≤ Y) : R X ≤ R Y := rung_mono 0 h
theorem R_top (X : Nat) : R X ≤ 2047 * 2 ^ 52 := by
  unfold R rung
  split
  · exact Nat.zero_le _
  · exact Nat.min_le_right _ _
theorem R_zero : R 0 = 0 := by unfold R rung; simp
/-- A number of at most 53 digits, and zeros behind them, is rounded to itself. -/
theorem R_small {X : Nat} (h : X < 2 ^ 53) : R X = X := by
  unfold R rung
  by_cases hX : X = 0
  · simp [hX]
  · rw [if_neg hX]
    have hp : plc 0 X = 0 := by
      have h1 : X.log2 < 53 := (Nat.log2_lt hX).2 h
      unfold plc; omega
    have hr : rhe X 0 = X := by unfold rhe; simp; omega
    rw [hp, hr]
    generalize hb : (2047 * 2 ^ 52 : Nat) = t
    have : X ≤ t := by rw [← hb]; exact Nat.le_trans (Nat.le_of_lt h) (by decide)
    omega
theorem R_big {q j : Nat} (h1 : 2 ^ 52 ≤ q) (h2 : q < 2 ^ 53) (hj : j < 2046) : R (q * 2 ^ j) = j * 2 ^ 52 + q := by
  unfold R rung
  have hk := pow_pos j
  have hq : q ≠ 0 := by intro e; rw [e] at h1; exact absurd h1 (by decide)
  have hmk : q * 2 ^ j ≠ 0 := by intro h; rcases Nat.mul_eq_zero.1 h with h | h <;> omega
  rw [if_neg hmk]
  have hlog : (q * 2 ^ j).log2 = 52 + j := by
    rw [Nat.log2_eq_iff hmk]
    constructor
    · rw [Nat.pow_add]; exact Nat.mul_le_mul_right _ h1
    · rw [show 52 + j + 1 = 53 + j by omega, Nat.pow_add]; exact (Nat.mul_lt_mul_right hk).2 h2
  have hp : plc 0 (q * 2 ^ j) = j := by unfold plc; rw [hlog]; omega
  rw [hp, rhe_div ⟨q, Nat.mul_comm _ _⟩, Nat.mul_div_cancel _ hk, Nat.sub_zero]
  obtain ⟨B, hB, hB2⟩ : ∃ B : Nat, 2 ^ 52 = B ∧ 2 ^ 53 = 2 * B := ⟨_, rfl, rfl⟩
  rw [hB] at h1 ⊢
  rw [hB2] at h2
  have h3 : (j + 2) * B ≤ 2047 * B := Nat.mul_le_mul_right _ (by omega)
  rw [Nat.add_mul] at h3
  clear hB hB2
  generalize j * B = z at *
  omega
/-- The two ways a rung stands. -/
theorem V_cases {r : Nat} (h : r < 2047 * 2 ^ 52) : (r < 2 ^ 52 ∧ V r = r) ∨ ∃ q j, 2 ^ 52 ≤ q ∧ q < 2 ^ 53 ∧ j < 2046 ∧ r = j * 2 ^ 52 + q ∧ V r = q * 2 ^ j ∧ q = 2 ^ 52 + r % 2 ^ 52 ∧ j = r / 2 ^ 52 - 1 := by
  by_cases c : r < 2 ^ 52
  · exact .inl ⟨c, if_pos c⟩
  · refine .inr ⟨2 ^ 52 + r % 2 ^ 52, r / 2 ^ 52 - 1, by omega, ?_, ?_, ?_, if_neg c, rfl, rfl⟩
    · have : r % 2 ^ 52 < 2 ^ 52 := Nat.mod_lt _ (by decide)
      rw [show (2 ^ 53 : Nat) = 2 ^ 52 + 2 ^ 52 by decide]
      exact Nat.add_lt_add_left this _
    · have h1 : r / 2 ^ 52 < 2047 := (Nat.div_lt_iff_lt_mul (by decide)).2 h
      omega
    · have h2 : 1 ≤ r / 2 ^ 52 := (Nat.le_div_iff_mul_le (by decide)).2 (by omega)
      have h3 := Nat.div_add_mod r (2 ^ 52)
      obtain ⟨d, hd⟩ : ∃ d, r / 2 ^ 52 = d + 1 := ⟨_, (Nat.sub_add_cancel h2).symm⟩
      rw [hd] at h3 ⊢
      rw [Nat.mul_add, Nat.mul_comm] at h3
      rw [Nat.add_sub_cancel]
      generalize r % 2 ^ 52 = m at *
      generalize (2 ^ 52 : Nat) = B at *
      generalize d * B = z at *
      omega
theorem R_V {r : Nat} (h : r < 2047 * 2 ^ 52) : R (V r) = r := by
  rcases V_cases h with ⟨h1, h2⟩ | ⟨q, j, h1, h2, h3, h4, h5, _⟩
  · rw [h2]; exact R_small (Nat.lt_trans h1 (by decide))
  · rw [h5, R_big h1 h2 h3, ← h4]
theorem V_small {r : Nat} (h : r < 2 ^ 53) : V r = r := by
  by_cases c : r < 2 ^ 52
  · exact if_pos c
  · unfold V
    rw [if_neg c]
    have e : r / 2 ^ 52 = 1 := by
      rw [Nat.div_eq_iff (by decide)]
      generalize hb : (2 ^ 52 : Nat) = B at *
      rw [show (2 ^ 53 : Nat) = 2 * 2 ^ 52 by decide, hb] at h
      clear hb
      omega
    have h3 := Nat.div_add_mod r (2 ^ 52)
    rw [e, Nat.mul_one] at h3
    rw [e, h3]; simp
theorem V_big {q j : Nat} (h1 : 2 ^ 52 ≤ q) (h2 : q < 2 ^ 53) : V (j * 2 ^ 52 + q) = q * 2 ^ j := by
  obtain ⟨m, rfl⟩ : ∃ m, q = 2 ^ 52 + m := ⟨_, (Nat.add_sub_cancel' h1).symm⟩
  have hm : m < 2 ^ 52 := by
    rw [show (2 ^ 53 : Nat) = 2 ^ 52 + 2 ^ 52 by decide] at h2
    exact Nat.lt_of_add_lt_add_left h2
  have e : j * 2 ^ 52 + (2 ^ 52 + m) = m + 2 ^ 52 * (j + 1) := by
    rw [Nat.mul_add, Nat.mul_comm (2 ^ 52) j, Nat.mul_one]
    generalize (2 ^ 52 : Nat) = B
    omega
  rw [e]
  unfold V
  rw [Nat.add_mul_mod_self_left, Nat.add_mul_div_left _ _ (by decide), Nat.mod_eq_of_lt hm, Nat.div_eq_of_lt hm, if_neg]
  · simp
  · intro h
    have h6 : 2 ^ 52 * 1 ≤ 2 ^ 52 * (j + 1) := Nat.mul_le_mul_left _ (by omega)
    rw [Nat.mul_one] at h6
    generalize 2 ^ 52 * (j + 1) = z at *
    generalize (2 ^ 52 : Nat) = B at *
    omega
/-- What is a rung's worth is worth it again. -/
theorem V_R_V {r : Nat} (h : r < 2047 * 2 ^ 52) : V (R (V r)) = V r := by rw [R_V h]
/-- Digits, at most 53 of them, and zeros: some rung has just this worth. -/
theorem V_exact : ∀ (n X : Nat) (j : Nat), X < 2 ^ 53 → X * 2 ^ j < TP → 53 - X.log2 ≤ n + 1 → V (R (X * 2 ^ j)) = X * 2 ^ j := by
  intro n
  induction n with
  | zero =>
    intro X j hX hb hl
    by_cases h0 : X = 0
    · subst h0; rw [Nat.zero_mul, R_zero]; decide
    · have h1 : X.log2 < 53 := (Nat.log2_lt h0).2 hX
      have h2 : 2 ^ 52 ≤ X := by
        have := Nat.log2_self_le h0
        rw [show X.log2 = 52 by omega] at this
        exact this
      have hj : j < 2046 := by
        rcases Nat.lt_or_ge j 2046 with c | c
        · exact c
        · exfalso
          have h3 : TP ≤ X * 2 ^ j := by
            obtain ⟨b, hb2⟩ : ∃ b, b = 2046 := ⟨_, rfl⟩
            rw [TP_pow rfl hb2]
            exact Nat.mul_le_mul h2 (pow_le (by omega))
          exact absurd hb (Nat.not_lt.2 h3)
      rw [R_big h2 hX hj, V_big h2 hX]
  | succ n ih =>
    intro X j hX hb hl
    by_cases c : 53 - X.log2 ≤ n + 1
    · exact ih X j hX hb c
    · cases j with
      | zero => rw [Nat.pow_zero, Nat.mul_one, R_small hX, V_small hX]
      | succ j =>
        have e : X * 2 ^ (j + 1) = (2 * X) * 2 ^ j := by rw [Nat.pow_succ, Nat.mul_comm (2 ^ j) 2, ← Nat.mul_assoc, Nat.mul_comm X 2]
        rw [e] at hb ⊢
        by_cases h0 : X = 0
        · subst h0; rw [Nat.mul_zero, Nat.zero_mul, R_zero]; decide
        · have h1 : X.log2 < 52 := by omega
          have h2 : X < 2 ^ 52 := (Nat.log2_lt h0).1 h1
          refine ih (2 * X) j ?_ hb ?_
          · rw [show (2 ^ 53 : Nat) = 2 * 2 ^ 52 by decide]; exact (Nat.mul_lt_mul_left (by decide)).2 h2
          · have a1 := log_lt X
            have a2 := Nat.log2_self_le h0
            have : (2 * X).log2 = X.log2 + 1 := by
              rw [Nat.log2_eq_iff (by omega)]
              rw [Nat.pow_succ 2 (X.log2 + 1), Nat.pow_succ] at *
              omega
            omega
theorem V_exact' {X j : Nat} (h : X < 2 ^ 53) (hb : X * 2 ^ j < TP) : V (R (X * 2 ^ j)) = X * 2 ^ j := V_exact 53 X j h hb (by omega)
theorem V_top : V (2047 * 2 ^ 52) = TP := by decide +kernel
theorem R_inf {X : Nat} (h : TP ≤ X) : R X = 2047 * 2 ^ 52 := by
  have h1 := R_mono h
  have h2 : R (TP) = 2047 * 2 ^ 52 := by decide +kernel
  have h3 := R_top X
  rw [h2] at h1
  exact Nat.le_antisymm h3 h1
theorem R_V' {r : Nat} (h : r ≤ 2047 * 2 ^ 52) : R (V r) = r := by
  rcases Nat.lt_or_eq_of_le h with h | h
  · exact R_V h
  · rw [h, V_top]; exact R_inf (Nat.le_refl _)
theorem V_lt {a b : Nat} (h : a < b) (hb : b ≤ 2047 * 2 ^ 52) : V a < V b := by
  rcases Nat.lt_or_ge (V a) (V b) with c | c
  · exact c
  · have := R_mono c
    rw [R_V' hb, R_V' (Nat.le_trans (Nat.le_of_lt h) hb)] at this
    exact absurd h (Nat.not_lt.2 this)
theorem V_le {a b : Nat} (h : a ≤ b) (hb : b ≤ 2047 * 2 ^ 52) : V a ≤ V b := by
  rcases Nat.lt_or_eq_of_le h with h | h
  · exact Nat.le_of_lt (V_lt h hb)
  · rw [h]; exact Nat.le_refl _
/-- What lies below 2 ^ 53 may have a fraction; what lies above has none. -/
theorem V_whole {r : Nat} (h : r < 2047 * 2 ^ 52) : V r < 2 ^ 53 * O ∨ O ∣ V r := by
  rcases V_cases h with ⟨h1, h2⟩ | ⟨q, j, h1, h2, h3, h4, h5, _⟩
  · left
    rw [h2]
    have := O_pos
    calc r < 2 ^ 52 := h1
      _ ≤ 2 ^ 53 * 1 := by decide
      _ ≤ 2 ^ 53 * O := Nat.mul_le_mul_left _ this
  · rw [h5]
    obtain ⟨b, hb⟩ : ∃ b : Nat, b = 1074 := ⟨_, rfl⟩
    rcases Nat.lt_or_ge j b with c | c
    · left
      have p : 2 ^ j ≤ O := by rw [← O_pow hb]; exact pow_le (Nat.le_of_lt c)
      calc q * 2 ^ j ≤ q * O := Nat.mul_le_mul_left _ p
        _ < 2 ^ 53 * O := (Nat.mul_lt_mul_right O_pos).2 h2
    · right
      obtain ⟨d, rfl⟩ : ∃ d, j = d + b := ⟨_, (Nat.sub_add_cancel c).symm⟩
      exact ⟨q * 2 ^ d, by rw [Nat.pow_add, O_pow hb, ← Nat.mul_assoc, Nat.mul_comm]⟩
/-- Rounded up to a whole number. -/
def cd (X : Nat) : Nat := (X + O - 1) / O
theorem cd_eq (X : Nat) : cd X = X / O + (if X / O * O < X then 1 else 0) := by
  unfold cd
  have ho := O_pos
  have hd := Nat.div_add_mod X O
  have hm := Nat.mod_lt X ho
  rw [Nat.mul_comm (X / O)]
  generalize X / O = q at *
  generalize X % O = r at *
  generalize O = g at *
  subst hd
  by_cases hr : r = 0
  · subst hr
    rw [if_neg (by omega), show g * q + 0 + g - 1 = g - 1 + g * q by omega, Nat.add_mul_div_left _ _ ho, Nat.div_eq_of_lt (by omega)]; omega
  · rw [if_pos (by omega), show g * q + r + g - 1 = (r - 1) + g * (q + 1) by rw [Nat.mul_add]; omega, Nat.add_mul_div_left _ _ ho, Nat.div_eq_of_lt (by omega)]
    omega
theorem cd_mono {X Y : Nat} (h : X ≤ Y) : cd X ≤ cd Y := Nat.div_le_div_right (by omega)
theorem cd_whole {X : Nat} (h : O ∣ X) : cd X = X / O ∧ cd X * O = X := by
  have e : X / O * O = X := Nat.div_mul_cancel h
  have : cd X = X / O := by rw [cd_eq, e, if_neg (Nat.lt_irrefl _)]; rfl
  exact ⟨this, by rw [this, e]⟩
theorem cd_le {X c : Nat} (h : X ≤ c * O) : cd X ≤ c := by
  have h1 := cd_mono h
  rw [(cd_whole ⟨c, Nat.mul_comm _ _⟩).1, Nat.mul_div_cancel _ O_pos] at h1
  exact h1
theorem le_cd (X : Nat) : X ≤ cd X * O := by
  rw [cd_eq]
  have hd := Nat.div_add_mod X O
  have hm := Nat.mod_lt X O_pos
  rw [Nat.mul_comm (X / O)]
  generalize hq : X / O = q at *
  generalize X % O = r at *
  split
  · rw [Nat.add_mul, Nat.mul_comm q]; omega
  · rw [Nat.add_zero, Nat.mul_comm q]; omega
theorem O_small : 2 ^ 53 * O < TP := by decide +kernel
theorem O_dvd : O ∣ TP := ⟨TP / O, by decide +kernel⟩
theorem exact_small {c : Nat} (h : c ≤ 2 ^ 53) : V (R (c * O)) = c * O := by
  rcases Nat.lt_or_eq_of_le h with h | h
  · obtain ⟨b, hb⟩ : ∃ b : Nat, b = 1074 := ⟨_, rfl⟩
    have h2 := V_exact' (X := c) (j := b) h (by rw [O_pow hb]; exact Nat.lt_trans ((Nat.mul_lt_mul_right O_pos).2 h) O_small)
    rw [O_pow hb] at h2
    exact h2
  · subst h; decide +kernel
theorem exact_cd {r : Nat} (h : r < 2047 * 2 ^ 52) : V (R (cd (V r) * O)) = cd (V r) * O := by
  rcases V_whole h with c | c
  · exact exact_small (cd_le (Nat.le_of_lt c))
  · rw [(cd_whole c).2, R_V h]
theorem exact_fl {r : Nat} (h : r < 2047 * 2 ^ 52) : V (R (V r / O * O)) = V r / O * O := by
  rcases V_whole h with c | c
  · refine exact_small (Nat.le_of_lt ((Nat.div_lt_iff_lt_mul O_pos).2 c))
  · rw [Nat.div_mul_cancel c, R_V h]
/-- From 2 ^ 64 on or not: the number and what it is rounded up to agree. -/
theorem far_cd {r : Nat} (h : r < 2047 * 2 ^ 52) : 2 ^ 64 * O ≤ cd (V r) * O ↔ 2 ^ 64 * O ≤ V r := by
  constructor
  · intro h1
    rcases V_whole h with c | c
    · have h2 : cd (V r) ≤ 2 ^ 53 := cd_le (Nat.le_of_lt c)
      have h3 := Nat.le_of_mul_le_mul_right h1 O_pos
      exact absurd (Nat.le_trans h3 h2) (by decide)
    · rw [(cd_whole c).2] at h1; exact h1
  · intro h1
    exact Nat.le_trans h1 (le_cd _)
end Go.Proofs.Ytfjjmmaddcofkaa
