/- Doubles, plainly: words: read, compared, multiplied, made whole. No program in sight. -/
import Derived.Test.YtfjjmmaddcofkaaFm
namespace Go.Proofs.Ytfjjmmaddcofkaa
open Ieee
set_option linter.unusedSimpArgs false
set_option linter.unusedVariables false

theorem sw_eq : double.signWeight = 2 ^ 63 := rfl
theorem bin_eq : double.binade = 2 ^ 52 := rfl
theorem inf_eq : double.infRung = 2047 * 2 ^ 52 := rfl
theorem least_eq : double.leastPlace = -1074 := by decide
theorem word_eq (neg : Bool) (r : Nat) : double.word neg r = if neg then 2 ^ 63 + r else r := rfl
theorem split_word (neg : Bool) {r : Nat} (h : r < 2 ^ 63) : (double.word neg r / 2 ^ 63 % 2 == 1) = neg ∧ double.word neg r % 2 ^ 63 = r := by
  rw [word_eq]
  cases neg
  · simp only [Bool.false_eq_true, if_false, Nat.div_eq_of_lt h, Nat.mod_eq_of_lt h]; exact ⟨rfl, trivial⟩
  · simp only [if_true]
    have e : (2 ^ 63 + r) / 2 ^ 63 = 1 := by rw [Nat.add_comm, Nat.add_div_right _ (by decide), Nat.div_eq_of_lt h]
    have e2 : (2 ^ 63 + r) % 2 ^ 63 = r := by rw [Nat.add_comm, Nat.add_mod_right, Nat.mod_eq_of_lt h]
    rw [e, e2]; exact ⟨rfl, rfl⟩
theorem top_lt : 2047 * 2 ^ 52 < 2 ^ 63 := by decide
/-- A number's word, read. -/
theorem read_num (neg : Bool) {r : Nat} (h : r < 2047 * 2 ^ 52) : ∃ m k : Nat, double.read (double.word neg r) = .number neg m (-1074 + (k : Int)) ∧ m * 2 ^ k = V r := by
  obtain ⟨h1, h2⟩ := split_word neg (Nat.lt_trans h top_lt)
  unfold Format.read
  rw [sw_eq]
  simp only [h1, h2, bin_eq, inf_eq, least_eq]
  rcases V_cases h with ⟨c, e⟩ | ⟨q, j, c1, c2, c3, c4, c5, c6, c7⟩
  · rw [if_pos c]
    exact ⟨r, 0, rfl, by rw [e, Nat.pow_zero, Nat.mul_one]⟩
  · have c : ¬ r < 2 ^ 52 := by
      intro c
      rw [c4] at c
      exact Nat.not_lt.2 (Nat.le_trans c1 (Nat.le_add_left _ _)) c
    rw [if_neg c, if_pos h]
    exact ⟨_, _, rfl, by rw [c5, c6, c7]⟩
theorem read_inf (neg : Bool) : double.read (double.word neg (2047 * 2 ^ 52)) = .infinity neg := by
  cases neg <;> decide +kernel
/-- A word that is no NaN. -/
theorem word_of {b : Nat} (h : b < 2 ^ 64) (hn : (double.read b).isNaN = false) : ∃ neg r, r ≤ 2047 * 2 ^ 52 ∧ b = double.word neg r := by
  have hb : b = double.word (b / 2 ^ 63 % 2 == 1) (b % 2 ^ 63) := by
    rw [word_eq]
    have h1 := Nat.div_add_mod b (2 ^ 63)
    have h2 : b / 2 ^ 63 < 2 := (Nat.div_lt_iff_lt_mul (by decide)).2 (by rw [show 2 * 2 ^ 63 = 2 ^ 64 by decide]; exact h)
    generalize b / 2 ^ 63 = q at *
    generalize (2 ^ 63 : Nat) = B at *
    match q, h2 with
    | 0, _ => simp; omega
    | 1, _ => simp; omega
  refine ⟨_, _, ?_, hb⟩
  rcases Nat.lt_or_ge (2047 * 2 ^ 52) (b % 2 ^ 63) with c | c
  · exfalso
    have hm : b % 2 ^ 63 < 2 ^ 63 := Nat.mod_lt _ (by decide)
    obtain ⟨h1, h2⟩ := split_word (b / 2 ^ 63 % 2 == 1) hm
    rw [hb] at hn
    unfold Format.read at hn
    rw [sw_eq] at hn
    simp only [h1, h2, bin_eq, inf_eq, least_eq] at hn
    rw [if_neg (Nat.not_lt.2 (Nat.le_trans (by decide) (Nat.le_of_lt c))), if_neg (Nat.not_lt.2 (Nat.le_of_lt c)), if_neg (Nat.ne_of_gt c)] at hn
    cases hn
  · exact c
def sg (s : Bool) (n : Nat) : Int := if s then -(n : Int) else n
theorem signed_eq (s : Bool) (m k : Nat) : signed s m k = sg s (m * 2 ^ k) := by
  unfold signed sg; rw [Nat.shiftLeft_eq]
theorem compare_sg (s t : Bool) (x y p : Nat) (hp : 0 < p) : compare (sg s x) (sg t y) = compare (sg s (x * p)) (sg t (y * p)) := by
  have hs : ∀ s n, sg s (n * p) = sg s n * (p : Int) := by
    intro s n; unfold sg; split
    · rw [Int.natCast_mul, Int.neg_mul]
    · rw [Int.natCast_mul]
  rw [hs, hs]
  have hp' : (0 : Int) < p := by omega
  generalize sg s x = a
  generalize sg t y = b
  simp only [compare, compareOfLessAndEq]
  by_cases h1 : a < b
  · rw [if_pos h1, if_pos (Int.mul_lt_mul_of_pos_right h1 hp')]
  · have h1' : ¬ a * (p : Int) < b * (p : Int) := fun h => h1 (Int.lt_of_mul_lt_mul_right h (Int.le_of_lt hp'))
    rw [if_neg h1, if_neg h1']
    by_cases h2 : a = b
    · rw [if_pos h2, if_pos (by rw [h2])]
    · rw [if_neg h2, if_neg]
      intro h; exact h2 (Int.eq_of_mul_eq_mul_right (by omega) h)
/-- Two numbers' order is that of their worths. -/
theorem order_num (s t : Bool) (m n i j : Nat) : (Datum.number s m (-1074 + (i : Int))).order (.number t n (-1074 + (j : Int))) = some (compare (sg s (m * 2 ^ i)) (sg t (n * 2 ^ j))) := by
  unfold Datum.order
  simp only [signed_eq]
  congr 1
  obtain ⟨b, hb⟩ : ∃ b, b = min i j := ⟨_, rfl⟩
  have e0 : min (-1074 + (i : Int)) (-1074 + (j : Int)) = -1074 + (b : Int) := by omega
  rw [e0]
  have e1 : (-1074 + (i : Int) - (-1074 + (b : Int))).toNat = i - b := by omega
  have e2 : (-1074 + (j : Int) - (-1074 + (b : Int))).toNat = j - b := by omega
  rw [e1, e2, compare_sg s t _ _ (2 ^ b) (pow_pos b), Nat.mul_assoc, Nat.mul_assoc, ← Nat.pow_add, ← Nat.pow_add, show i - b + b = i by omega, show j - b + b = j by omega]
theorem compare_lt {a b : Int} (h : a < b) : compare a b = .lt := by simp only [compare, compareOfLessAndEq]; rw [if_pos h]
theorem compare_gt {a b : Int} (h : b < a) : compare a b = .gt := by
  simp only [compare, compareOfLessAndEq]; rw [if_neg (by omega), if_neg (by omega)]
theorem compare_self (a : Int) : compare a a = .eq := by
  simp only [compare, compareOfLessAndEq]; rw [if_neg (by omega), if_pos trivial]
theorem order_words (s t : Bool) {a b : Nat} (ha : a ≤ 2047 * 2 ^ 52) (hb : b ≤ 2047 * 2 ^ 52) : double.order (double.word s a) (double.word t b) = some (compare (sg s (V a)) (sg t (V b))) := by
  unfold Format.order
  have hT : 0 < V (2047 * 2 ^ 52) := by rw [V_top]; decide +kernel
  rcases Nat.lt_or_eq_of_le ha with ca | ca <;> rcases Nat.lt_or_eq_of_le hb with cb | cb
  · obtain ⟨m, i, h1, h2⟩ := read_num s ca
    obtain ⟨n, j, h3, h4⟩ := read_num t cb
    rw [h1, h3, order_num, h2, h4]
  · obtain ⟨m, i, h1, h2⟩ := read_num s ca
    have hv := V_lt ca (Nat.le_refl _)
    rw [cb, h1, read_inf]
    unfold Datum.order
    generalize V (2047 * 2 ^ 52) = T at *
    generalize V a = x at *
    cases t
    · rw [compare_lt (by unfold sg; cases s <;> simp <;> omega)]; rfl
    · rw [compare_gt (by unfold sg; cases s <;> simp <;> omega)]; rfl
  · obtain ⟨n, j, h3, h4⟩ := read_num t cb
    have hv := V_lt cb (Nat.le_refl _)
    rw [ca, h3, read_inf]
    unfold Datum.order
    generalize V (2047 * 2 ^ 52) = T at *
    generalize V b = x at *
    cases s
    · rw [compare_gt (by unfold sg; cases t <;> simp <;> omega)]; rfl
    · rw [compare_lt (by unfold sg; cases t <;> simp <;> omega)]; rfl
  · rw [ca, cb, read_inf, read_inf]
    unfold Datum.order
    generalize V (2047 * 2 ^ 52) = T at *
    cases s <;> cases t
    · rw [compare_self]; rfl
    · rw [compare_gt (by simp [sg]; omega)]; rfl
    · rw [compare_lt (by simp [sg]; omega)]; rfl
    · rw [compare_self]; rfl
/-- A thousand. -/
def K : Nat := 0x408F400000000000
theorem K_word : K = double.word false (1032 * 2 ^ 52 + 4292493394837504) ∧ double.read K = .number false (1000 * 2 ^ 43) (-1074 + (1031 : Nat)) := by decide +kernel
theorem write_num (neg : Bool) (m k L : Nat) : double.write (.number neg m (-1074 - (L : Int) + (k : Int))) = double.word neg (rung L (m * 2 ^ k)) := by
  unfold Format.write
  exact nearest_rung neg m _ L k rfl
theorem mul_word (neg : Bool) {r : Nat} (h : r ≤ 2047 * 2 ^ 52) : double.mul (double.word neg r) K = some (double.word neg (R (V r * 1000))) := by
  unfold Format.mul
  rw [K_word.2]
  rcases Nat.lt_or_eq_of_le h with c | c
  · obtain ⟨m, k, h1, h2⟩ := read_num neg c
    rw [h1]
    unfold Datum.product
    rw [Option.map_some, Bool.xor_false, show (-1074 + (k : Int) + (-1074 + (1031 : Nat)) : Int) = -1074 - ((43 : Nat) : Int) + (k : Int) by omega, write_num, ← h2]
    rw [show m * (1000 * 2 ^ 43) * 2 ^ k = (m * 2 ^ k * 1000) * 2 ^ 43 by
      generalize (2 ^ 43 : Nat) = B
      generalize (2 ^ k : Nat) = C
      rw [← Nat.mul_assoc, Nat.mul_right_comm _ B C, Nat.mul_right_comm m 1000 C], rung_shift]
  · rw [c, read_inf]
    have e : (Datum.infinity neg).product (.number false (1000 * 2 ^ 43) (-1074 + (1031 : Nat))) = some (.infinity (neg ^^ false)) := by
      unfold Datum.product
      exact if_neg (by decide)
    rw [e, Option.map_some, Bool.xor_false, V_top, R_inf (Nat.le_mul_of_pos_right _ (by decide))]
    rfl
/-- A number that is not below nought, made whole upwards. -/
theorem ceil_word {r : Nat} (h : r ≤ 2047 * 2 ^ 52) : double.write ((double.read (double.word false r)).integral .up) = double.word false (R (cd (V r) * O)) := by
  rcases Nat.lt_or_eq_of_le h with c | c
  · obtain ⟨m, k, h1, h2⟩ := read_num false c
    rw [h1]
    unfold Datum.integral
    simp only []
    have e : Toward.up.cut false (m <<< (-1074 + (k : Int)).toNat) (-(-1074 + (k : Int))).toNat = cd (V r) := by
      rw [cut_up, Nat.shiftLeft_eq, ← h2]
      unfold cd
      obtain ⟨b, hb⟩ : ∃ b : Nat, b = 1074 := ⟨_, rfl⟩
      have hO := O_pow hb
      rcases Nat.lt_or_ge k b with c | c
      · rw [show (-1074 + (k : Int)).toNat = 0 by omega, show (-(-1074 + (k : Int))).toNat = b - k by omega, Nat.pow_zero, Nat.mul_one]
        have e : O = 2 ^ (b - k) * 2 ^ k := by rw [← Nat.pow_add, show b - k + k = b by omega, hO]
        rw [e]
        clear e hO
        have p1 := pow_pos (b - k)
        have p2 := pow_pos k
        generalize 2 ^ (b - k) = g at *
        generalize 2 ^ k = u at *
        -- (m + g - 1) / g = (m * u + g * u - 1) / (g * u)
        rw [Nat.mul_comm g u, ← Nat.div_div_eq_div_mul]
        congr 1
        rw [show m * u + u * g - 1 = (u - 1) + u * (m + g - 1) by
          obtain ⟨d, rfl⟩ : ∃ d, g = d + 1 := ⟨_, (Nat.sub_add_cancel p1).symm⟩
          rw [show m + (d + 1) - 1 = m + d by omega, Nat.mul_add, Nat.mul_add, Nat.mul_comm m u]
          omega, Nat.add_mul_div_left _ _ p2, Nat.div_eq_of_lt (by omega), Nat.zero_add]
      · obtain ⟨d, rfl⟩ : ∃ d, k = d + b := ⟨_, (Nat.sub_add_cancel c).symm⟩
        rw [show (-1074 + ((d + b : Nat) : Int)).toNat = d by omega, show (-(-1074 + ((d + b : Nat) : Int))).toNat = 0 by omega, Nat.pow_zero, Nat.div_one, Nat.pow_add, hO, ← Nat.mul_assoc]
        have := (cd_whole (X := m * 2 ^ d * O) ⟨m * 2 ^ d, by rw [Nat.mul_comm]⟩).1
        unfold cd at this
        rw [this, Nat.mul_div_cancel _ O_pos]
        omega
    rw [e]
    obtain ⟨b, hb⟩ : ∃ b : Nat, b = 1074 := ⟨_, rfl⟩
    have := write_num false (cd (V r)) b 0
    simp only [Int.natCast_zero, Int.sub_zero] at this
    rw [show (-1074 + ((b : Nat) : Int)) = 0 by omega, O_pow hb] at this
    rw [this]; rfl
  · rw [c, read_inf]
    unfold Datum.integral
    have e : cd (V (2047 * 2 ^ 52)) * O = V (2047 * 2 ^ 52) := (cd_whole (by rw [V_top]; exact O_dvd)).2
    rw [e, V_top, R_inf (Nat.le_refl _)]
    rfl
/-- A number that is not below nought, cut to a whole one. -/
theorem int_word {r : Nat} (h : r < 2047 * 2 ^ 52) : (double.read (double.word false r)).toInt .zero = some ((V r / O : Nat) : Int) := by
  obtain ⟨m, k, h1, h2⟩ := read_num false h
  rw [h1]
  unfold Datum.toInt Datum.integral
  simp only [signed_eq, Nat.pow_zero, Nat.mul_one, cut_zero, Nat.shiftLeft_eq]
  unfold sg
  simp only [Bool.false_eq_true, if_false]
  congr 2
  rw [← h2]
  obtain ⟨b, hb⟩ : ∃ b : Nat, b = 1074 := ⟨_, rfl⟩
  have hO := O_pow hb
  rcases Nat.lt_or_ge k b with c | c
  · rw [show (-1074 + (k : Int)).toNat = 0 by omega, show (-(-1074 + (k : Int))).toNat = b - k by omega, Nat.pow_zero, Nat.mul_one]
    have e : O = 2 ^ (b - k) * 2 ^ k := by rw [← Nat.pow_add, show b - k + k = b by omega, hO]
    rw [e, Nat.mul_div_mul_right _ _ (pow_pos k)]
  · obtain ⟨d, rfl⟩ : ∃ d, k = d + b := ⟨_, (Nat.sub_add_cancel c).symm⟩
    rw [show (-1074 + ((d + b : Nat) : Int)).toNat = d by omega, show (-(-1074 + ((d + b : Nat) : Int))).toNat = 0 by omega, Nat.pow_zero, Nat.div_one, Nat.pow_add, hO, ← Nat.mul_assoc, Nat.mul_div_cancel _ O_pos]
/-- A whole number's word. -/
theorem of_nat (n : Nat) : double.write (.number false n 0) = double.word false (R (n * O)) := by
  obtain ⟨b, hb⟩ : ∃ b : Nat, b = 1074 := ⟨_, rfl⟩
  have := write_num false n b 0
  simp only [Int.natCast_zero, Int.sub_zero] at this
  rw [show (-1074 + ((b : Nat) : Int)) = 0 by omega, O_pow hb] at this
  rw [this]; rfl
end Go.Proofs.Ytfjjmmaddcofkaa
