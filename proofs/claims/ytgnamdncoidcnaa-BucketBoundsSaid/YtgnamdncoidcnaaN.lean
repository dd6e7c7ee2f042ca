/- The plain law of the bounds: no program in sight. -/
import Derived.Test.YtgnamdncoidcnaaM
namespace Go.Proofs.Ytgnamdncoidcnaa
open Go.RowKit
set_option linter.unusedSimpArgs false
set_option linter.unusedVariables false

/-- The sum of the places i to j - 1. -/
def sumOf (ts : List Int) (i j : Nat) : Int := ((ts.take j).drop i).sum

theorem sumOf_self (ts : List Int) (i : Nat) : sumOf ts i i = 0 := by
  unfold sumOf; rw [List.drop_eq_nil_of_le (by rw [List.length_take]; omega)]; rfl
theorem sumOf_succ (ts : List Int) (i j : Nat) (h : i ≤ j) (hj : j < ts.length) : sumOf ts i (j + 1) = sumOf ts i j + ts[j] := by
  unfold sumOf
  rw [List.take_succ_eq_append_getElem hj, List.drop_append_of_le_length (by rw [List.length_take]; omega), List.sum_append]
  simp
theorem sumOf_append (ts : List Int) (x : Int) (i j : Nat) (hj : j ≤ ts.length) : sumOf (ts ++ [x]) i j = sumOf ts i j := by
  unfold sumOf; rw [List.take_append_of_le_length hj]
theorem sumOf_bd (ts : List Int) (hb : ∀ i (h : i < ts.length), 0 ≤ ts[i] ∧ ts[i] ≤ 2147483647) (i j : Nat) (h : i ≤ j) (hj : j ≤ ts.length) : 0 ≤ sumOf ts i j ∧ sumOf ts i j ≤ 2147483647 * (j - i : Nat) := by
  induction j with
  | zero => obtain rfl : i = 0 := by omega
            rw [sumOf_self]; omega
  | succ j ih =>
    by_cases hij : i = j + 1
    · subst hij; rw [sumOf_self]; omega
    · have h1 := ih (by omega) (by omega)
      have h2 := hb j (by omega)
      rw [sumOf_succ ts i j (by omega) (by omega)]
      omega

theorem getD_snoc_lt (l : List Int) (x : Int) (i : Nat) (h : i < l.length) : (l ++ [x]).getD i 0 = l.getD i 0 := by
  simp [List.getD, List.getElem?_append_left h]
theorem getD_snoc_eq (l : List Int) (x : Int) : (l ++ [x]).getD l.length 0 = x := by
  simp [List.getD]

/-- What holds behind some Takes: at the ticks 'al' so many ('ts') were taken; it is tick t, and h are left. -/
structure PI (M E B t h : Int) (al ts : List Int) : Prop where
  len : ts.length = al.length
  t0 : 0 ≤ t
  h0 : 0 ≤ h
  hB : h ≤ B
  aB : ∀ i, i < al.length → 0 ≤ al.getD i 0 ∧ al.getD i 0 ≤ t
  mono : ∀ i j, i ≤ j → j < al.length → al.getD i 0 ≤ al.getD j 0
  tB : ∀ i, i < ts.length → 0 ≤ ts.getD i 0 ∧ ts.getD i 0 ≤ 2147483647
  cur : ∀ i, i < al.length → h + sumOf ts i ts.length ≤ B + (t / E - al.getD i 0 / E) * M
  law : ∀ i j, i ≤ j → j < al.length → sumOf ts i (j + 1) ≤ B + ((al.getD j 0 - al.getD i 0) / E + 1) * M

theorem PI.start (M E B : Int) (hB : 0 ≤ B) : PI M E B 0 B [] [] :=
  ⟨rfl, Int.le_refl _, hB, Int.le_refl _, fun i h => absurd h (by simp), fun i j _ h => absurd h (by simp), fun i h => absurd h (by simp), fun i h => absurd h (by simp), fun i j _ h => absurd h (by simp)⟩

theorem div_sub_le (a t E : Int) (hE : 1 ≤ E) : t / E - a / E ≤ (t - a) / E + 1 := by
  have h1 := Int.ediv_mul_le t (show E ≠ 0 by omega)
  have h2 := Int.lt_ediv_add_one_mul_self a (show 0 < E by omega)
  have h3 : (t / E - a / E - 1) * E ≤ t - a := by rw [Int.sub_mul, Int.sub_mul]; rw [Int.add_mul] at h2; omega
  have := (Int.le_ediv_iff_mul_le (show 0 < E by omega)).2 h3
  omega

theorem PI.step {M E B t h : Int} {al ts : List Int} (p : PI M E B t h al ts) (r : Rated M E B) (t' n : Int) (ht : t ≤ t') :
    PI M E B t' (cH M E B h (t / E * E) t' - tk (cH M E B h (t / E * E) t') n) (al ++ [t']) (ts ++ [tk (cH M E B h (t / E * E) t') n]) := by
  obtain ⟨m1, m2, e1, e2, b1, b2⟩ := r
  have TE : t / E * E ≤ t := Int.ediv_mul_le _ (by omega)
  have hv := cH_mult M E B h (t / E * E) (t / E) t' e1 rfl (by omega) p.hB
  have hT : t / E ≤ t' / E := Int.ediv_le_ediv (by omega) ht
  have hm : 0 ≤ (t' / E - t / E) * M := Int.mul_nonneg (by omega) (by omega)
  have h0 := p.h0; have hB := p.hB; have p0 := p.t0; have pl := p.len
  generalize cH M E B h (t / E * E) t' = v at *
  have vB : v ≤ B := by rw [hv]; split <;> omega
  have v0 : 0 ≤ v := by rw [hv]; split <;> omega
  have vh : v ≤ h + (t' / E - t / E) * M := by rw [hv]; split <;> omega
  have x0 : 0 ≤ tk v n ∧ tk v n ≤ v := by unfold tk; repeat' split
                                          all_goals omega
  generalize tk v n = x at *
  have hcur : ∀ i, i < (al ++ [t']).length → v - x + sumOf (ts ++ [x]) i (ts ++ [x]).length ≤ B + (t' / E - (al ++ [t']).getD i 0 / E) * M := by
    intro i hi
    simp only [List.length_append, List.length_cons, List.length_nil] at hi ⊢
    rw [sumOf_succ _ _ _ (by omega) (by simp)]
    rw [sumOf_append _ _ _ _ (Nat.le_refl _)]
    have hl : (ts ++ [x])[ts.length]'(by simp) = x := by simp
    rw [hl]
    by_cases hlt : i < al.length
    · rw [getD_snoc_lt _ _ _ hlt]
      have c := p.cur i hlt
      have : (t' / E - al.getD i 0 / E) * M = (t' / E - t / E) * M + (t / E - al.getD i 0 / E) * M := by rw [← Int.add_mul]; congr 1; omega
      omega
    · obtain rfl : i = al.length := by omega
      rw [getD_snoc_eq, Int.sub_self, Int.zero_mul, ← pl, sumOf_self]; omega
  refine ⟨by simp [pl], by omega, by omega, by omega, ?_, ?_, ?_, hcur, ?_⟩
  · intro i hi
    by_cases hlt : i < al.length
    · rw [getD_snoc_lt _ _ _ hlt]; have := p.aB i hlt; omega
    · obtain rfl : i = al.length := by simp at hi; omega
      rw [getD_snoc_eq]; omega
  · intro i j hij hj
    simp at hj
    by_cases hlt : j < al.length
    · rw [getD_snoc_lt _ _ _ hlt, getD_snoc_lt _ _ _ (by omega)]; exact p.mono i j hij hlt
    · obtain rfl : j = al.length := by omega
      rw [getD_snoc_eq]
      by_cases hlt2 : i < al.length
      · rw [getD_snoc_lt _ _ _ hlt2]; have := p.aB i hlt2; omega
      · obtain rfl : i = al.length := by omega
        rw [getD_snoc_eq]; omega
  · intro i hi
    by_cases hlt : i < ts.length
    · rw [getD_snoc_lt _ _ _ hlt]; exact p.tB i hlt
    · obtain rfl : i = ts.length := by simp at hi; omega
      rw [getD_snoc_eq]; omega
  · intro i j hij hj
    simp at hj
    by_cases hlt : j < al.length
    · rw [getD_snoc_lt _ _ _ hlt, getD_snoc_lt _ _ _ (by omega), sumOf_append _ _ _ _ (by omega)]; exact p.law i j hij hlt
    · obtain rfl : j = al.length := by omega
      have c := hcur i (by simp; omega)
      have hl : (ts ++ [x]).length = al.length + 1 := by simp [pl]
      rw [hl] at c
      rw [getD_snoc_eq]
      generalize sumOf (ts ++ [x]) i (al.length + 1) = s at *
      have d := div_sub_le ((al ++ [t']).getD i 0) t' E e1
      have := Int.mul_le_mul_of_nonneg_right d (show 0 ≤ M by omega)
      omega
end Go.Proofs.Ytgnamdncoidcnaa
