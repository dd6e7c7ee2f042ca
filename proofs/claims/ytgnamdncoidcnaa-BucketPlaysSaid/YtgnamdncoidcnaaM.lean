/- Plain numbers of the bucket: no program in sight. -/
import Derived.Test.YtgnamdncoidcnaaE
namespace Go.Proofs.Ytgnamdncoidcnaa
open Go.RowKit
set_option linter.unusedSimpArgs false
set_option linter.unusedVariables false

theorem ediv_is {x E k : Int} (hE : 0 < E) (h1 : k * E ≤ x) (h2 : x < (k + 1) * E) : x / E = k := by
  have a := (Int.le_ediv_iff_mul_le hE).2 h1
  have b := (Int.ediv_lt_iff_lt_mul hE).2 h2
  omega
theorem cC_zero (E now : Int) (hE : 1 ≤ E) (h0 : 0 ≤ now) : cC E 0 now = now / E * E := by
  unfold cC; split
  · have : now = 0 := by omega
    subst this; simp
  · simp
theorem cH_zero (M E B h now : Int) (hE : 1 ≤ E) (h0 : 0 ≤ now) (hB : h ≤ B) : cH M E B h 0 now = if B ≤ h + now / E * M then B else h + now / E * M := by
  unfold cH; split
  · have : now = 0 := by omega
    subst this; simp only [Int.zero_ediv, Int.zero_mul, Int.add_zero]; split <;> omega
  · simp
theorem cC_mult (E c k now : Int) (hE : 1 ≤ E) (hc : c = k * E) (h0 : c ≤ now) : cC E c now = now / E * E := by
  unfold cC; split
  · have hcn : now = c := by omega
    rw [hcn, hc, Int.mul_ediv_cancel _ (by omega)]
  · have e : (now - c) / E = now / E - k := by
      rw [hc]
      have := Int.sub_mul_ediv_right now k (show E ≠ 0 by omega)
      omega
    rw [e, Int.sub_mul, hc]; omega
theorem cH_mult (M E B h c k now : Int) (hE : 1 ≤ E) (hc : c = k * E) (h0 : c ≤ now) (hB : h ≤ B) : cH M E B h c now = if B ≤ h + (now / E - k) * M then B else h + (now / E - k) * M := by
  unfold cH; split
  · have hcn : now = c := by omega
    rw [hcn, hc, Int.mul_ediv_cancel _ (by omega), Int.sub_self, Int.zero_mul]; split <;> omega
  · have e : (now - c) / E = now / E - k := by
      rw [hc]
      have := Int.sub_mul_ediv_right now k (show E ≠ 0 by omega)
      omega
    rw [e]

theorem when_math (M E B h0 now n : Int) (r : Rated M E B) (l0 : -2147483647 ≤ h0) (l1 : h0 ≤ B) (t0 : 0 ≤ now) (t1 : now < 1099511627776) (hn : n ≤ B) :
    now ≤ whenV M E B (cH M E B h0 0 now) (cC E 0 now) now n ∧ whenV M E B (cH M E B h0 0 now) (cC E 0 now) now n ≤ 9007199254740992 + 1099511627776 ∧
    (whenV M E B (cH M E B h0 0 now) (cC E 0 now) now n = now ∨ (now < whenV M E B (cH M E B h0 0 now) (cC E 0 now) now n ∧ cH M E B h0 0 (whenV M E B (cH M E B h0 0 now) (cC E 0 now) now n - 1) < n)) ∧
    n ≤ cH M E B (cH M E B h0 0 now) (cC E 0 now) (whenV M E B (cH M E B h0 0 now) (cC E 0 now) now n) := by
  obtain ⟨m1, m2, e1, e2, b1, b2⟩ := r
  have hag := (again M E B 0 now e1).1
  have hv := cH_zero M E B h0 now e1 t0 l1
  have hd := cC_zero E now e1 t0
  have T0 : 0 ≤ now / E := Int.ediv_nonneg t0 (by omega)
  have TE : now / E * E ≤ now := Int.ediv_mul_le _ (by omega)
  have TE2 : now < (now / E + 1) * E := Int.lt_ediv_add_one_mul_self _ (by omega)
  have TM : 0 ≤ now / E * M := Int.mul_nonneg T0 (by omega)
  generalize hvv : cH M E B h0 0 now = v at *
  have vB : v ≤ B := by rw [hv]; split <;> omega
  have vh : h0 ≤ v := by rw [hv]; split <;> omega
  by_cases hnv : n ≤ v
  · have hw : whenV M E B v (cC E 0 now) now n = now := by unfold whenV; rw [if_pos hnv]
    rw [hw]
    exact ⟨Int.le_refl _, by omega, .inl rfl, by rw [hag v vB]; exact hnv⟩
  · have hx : ¬ B ≤ h0 + now / E * M := fun hx => by rw [if_pos hx] at hv; omega
    have hvB : v = h0 + now / E * M := by rw [if_neg hx] at hv; exact hv
    rw [hd]
    have q1 : (n - v + M - 1) / M * M ≤ n - v + M - 1 := Int.ediv_mul_le _ (by omega)
    have q2 : n - v + M - 1 < ((n - v + M - 1) / M + 1) * M := Int.lt_ediv_add_one_mul_self _ (by omega)
    have q0 : 1 ≤ (n - v + M - 1) / M := by rw [Int.le_ediv_iff_mul_le (by omega)]; omega
    have q3 : (n - v + M - 1) / M ≤ n - v + M - 1 := Int.ediv_le_self _ (by omega)
    have hw0 : whenV M E B v (now / E * E) now n = (if now ≤ dl (now / E * E) ((n - v + M - 1) / M * E) then dl (now / E * E) ((n - v + M - 1) / M * E) else now) := by
      unfold whenV; rw [if_neg hnv, if_neg (by omega)]
    generalize (n - v + M - 1) / M = q at *
    generalize hT : now / E = T at *
    rw [Int.add_mul, Int.one_mul] at TE2 q2
    have qE0 : E ≤ q * E := by have := Int.mul_le_mul_of_nonneg_right q0 (show 0 ≤ E by omega); omega
    have qE1 : q * E ≤ 6442450944 * 1048576 := Int.mul_le_mul (by omega) e2 (by omega) (by omega)
    have hdl : dl (T * E) (q * E) = T * E + q * E := by unfold dl; rw [if_neg (by omega)]
    rw [hdl, if_pos (by omega)] at hw0
    rw [hw0]
    have hk : T * E + q * E = (T + q) * E := by rw [Int.add_mul]
    refine ⟨by omega, by omega, .inr ⟨by omega, ?_⟩, ?_⟩
    · rw [cH_zero M E B h0 _ e1 (by omega) l1]
      have hq : (T * E + q * E - 1) / E = T + q - 1 := ediv_is (by omega) (by rw [Int.sub_mul, Int.add_mul]; omega) (by rw [show T + q - 1 + 1 = T + q by omega, Int.add_mul]; omega)
      rw [hq]
      have : (T + q - 1) * M = T * M + q * M - M := by rw [Int.sub_mul, Int.add_mul]; omega
      rw [this]
      split <;> omega
    · rw [cH_mult M E B v (T * E) T _ e1 rfl (by omega) vB]
      have hq : (T * E + q * E) / E = T + q := by rw [hk]; exact Int.mul_ediv_cancel _ (by omega)
      rw [hq, show T + q - T = q by omega]
      split <;> omega
end Go.Proofs.Ytgnamdncoidcnaa
