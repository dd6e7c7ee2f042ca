/- The plain law of FdsetTurns. -/
import Derived.Test.YtljfnfaljadjdaaDoorD
namespace Go.Proofs.YtljfnfaljadjdaaDoor
open Go.RowKit
set_option linter.unusedSimpArgs false
set_option linter.unusedVariables false

theorem inL_lst (p : Nat → Bool) (k n : Nat) (h : n < k) : inL (lst p k) n = p n := by
  unfold inL
  rw [Bool.eq_iff_iff, decide_eq_true_iff, mem_lst]
  constructor
  · rintro ⟨m, h1, h2, h3⟩
    have : n = m := by omega
    subst this; exact h2
  · intro h1; exact ⟨n, h, h1, rfl⟩
theorem inL_app (l : List Int) (x : Int) (n : Nat) : inL (l ++ [x]) n = (inL l n || decide ((n : Int) = x)) := by
  unfold inL
  simp
theorem inL_one (x : Int) (n : Nat) : inL [x] n = decide ((n : Int) = x) := by
  unfold inL
  simp
theorem lst_none (p : Nat → Bool) (k : Nat) (h : ∀ n, n < k → p n = false) : lst p k = [] := by
  induction k with
  | zero => rfl
  | succ k ih => rw [lst_no _ _ (h k (by omega))]; exact ih (fun n hn => h n (by omega))
theorem has_zero (n : Nat) : hasN 0 0 n = false := by unfold hasN; split <;> simp
theorem lst_in (p : Nat → Bool) (x : Int) (h : x ∈ lst p 64) : 0 ≤ x ∧ x < 64 := by
  obtain ⟨n, h1, _, rfl⟩ := (mem_lst _ _ _).1 h
  omega

theorem has_wi (a b fd n : Nat) (hfd : fd < 64) (hn : n < 64) : hasN (wiA a fd) (wiB b fd) n = (hasN a b n || decide ((n : Int) = fd)) := by
  unfold hasN wiA wiB
  by_cases h : fd < 32 <;> by_cases h2 : n < 32 <;> simp only [h, h2, if_true, if_false, if_pos, if_neg, not_true, not_false_eq_true, test_or]
  · congr 1; rw [Bool.eq_iff_iff, decide_eq_true_iff, decide_eq_true_iff]; omega
  · rw [show decide ((n : Int) = fd) = false from decide_eq_false (by omega)]; simp
  · rw [show decide ((n : Int) = fd) = false from decide_eq_false (by omega)]; simp
  · congr 1; rw [Bool.eq_iff_iff, decide_eq_true_iff, decide_eq_true_iff]; omega

theorem and_not_bit (a k i : Nat) (hk : k < 32) (hi : i < 32) : (a &&& (4294967295 - 2 ^ k)).testBit i = (a.testBit i && !decide (k = i)) := by
  rw [Nat.testBit_and, test_not _ _ (pow_lt k hk) hi, Nat.testBit_two_pow]
theorem has_wo (a b fd n : Nat) (hfd : fd < 64) (hn : n < 64) : hasN (woA a fd) (woB b fd) n = (hasN a b n && !decide ((n : Int) = fd)) := by
  unfold hasN woA woB
  by_cases h : fd < 32 <;> by_cases h2 : n < 32 <;> simp only [h, h2, if_true, if_false, if_pos, if_neg, not_true, not_false_eq_true]
  · rw [and_not_bit _ _ _ h h2]; congr 2; rw [Bool.eq_iff_iff, decide_eq_true_iff, decide_eq_true_iff]; omega
  · rw [show decide ((n : Int) = fd) = false from decide_eq_false (by omega)]; simp
  · rw [show decide ((n : Int) = fd) = false from decide_eq_false (by omega)]; simp
  · rw [and_not_bit _ _ _ (by omega) (by omega)]; congr 2; rw [Bool.eq_iff_iff, decide_eq_true_iff, decide_eq_true_iff]; omega

theorem has_and (a b c d n : Nat) : hasN (a &&& c) (b &&& d) n = (hasN a b n && hasN c d n) := by
  unfold hasN; split <;> simp
theorem has_or (a b c d n : Nat) : hasN (a ||| c) (b ||| d) n = (hasN a b n || hasN c d n) := by
  unfold hasN; split <;> simp
theorem has_less (a b c d n : Nat) (hc : c < 4294967296) (hd : d < 4294967296) (hn : n < 64) : hasN (a &&& (4294967295 - c)) (b &&& (4294967295 - d)) n = (hasN a b n && !hasN c d n) := by
  unfold hasN; split
  · rw [Nat.testBit_and, test_not _ _ hc (by omega)]
  · rw [Nat.testBit_and, test_not _ _ hd (by omega)]

/-- The list of a set. -/
def L (a b : Nat) : List Int := lst (hasN a b) 64
theorem L_len (a b : Nat) : (L a b).length ≤ 64 := lst_len _ _
theorem turns_with (a b fd : Nat) (h : fd < 64) : L (wiA a fd) (wiB b fd) = lst (inL (L a b ++ [(fd : Int)])) 64 :=
  lst_congr _ _ _ fun n hn => by rw [has_wi a b fd n h hn, inL_app, L, inL_lst _ _ _ hn]
theorem turns_without (a b fd : Nat) (h : fd < 64) : L (woA a fd) (woB b fd) = lst (some4P (L a b) [(fd : Int)]) 64 :=
  lst_congr _ _ _ fun n hn => by rw [has_wo a b fd n h hn, some4P, inL_one, L, inL_lst _ _ _ hn]
theorem turns_out (a b : Nat) (fd : Int) (h : fd < 0 ∨ 64 ≤ fd) : L a b = lst (some4P (L a b) [fd]) 64 :=
  lst_congr _ _ _ fun n hn => by rw [some4P, inL_one, L, inL_lst _ _ _ hn, decide_eq_false (by omega)]; simp
theorem turns_and (a b c d : Nat) : L (a &&& c) (b &&& d) = lst (some3P (L a b) (L c d)) 64 :=
  lst_congr _ _ _ fun n hn => by rw [has_and, some3P, L, L, inL_lst _ _ _ hn, inL_lst _ _ _ hn]
theorem turns_or (a b c d : Nat) : L (a ||| c) (b ||| d) = lst (some1P (L a b) (L c d)) 64 :=
  lst_congr _ _ _ fun n hn => by rw [has_or, some1P, L, L, inL_lst _ _ _ hn, inL_lst _ _ _ hn]
theorem turns_less (a b c d : Nat) (hc : c < 4294967296) (hd : d < 4294967296) : L (a &&& (4294967295 - c)) (b &&& (4294967295 - d)) = lst (some4P (L a b) (L c d)) 64 :=
  lst_congr _ _ _ fun n hn => by rw [has_less _ _ _ _ _ hc hd hn, some4P, L, L, inL_lst _ _ _ hn, inL_lst _ _ _ hn]
theorem L_zero : L 0 0 = [] := lst_none _ _ fun n _ => has_zero n
theorem L_app_in (a b : Nat) (fd : Int) (h0 : 0 ≤ fd) (h1 : fd < 64) : ∀ x ∈ L a b ++ [fd], 0 ≤ x ∧ x < 64 := by
  intro x hx
  rcases List.mem_append.1 hx with h | h
  · exact lst_in _ _ h
  · rw [List.mem_singleton.1 h]; exact ⟨h0, h1⟩
theorem L_app_out (a b : Nat) (fd : Int) (h : fd < 0 ∨ 64 ≤ fd) : ∃ x ∈ L a b ++ [fd], x < 0 ∨ 64 ≤ x := ⟨fd, by simp, h⟩
end Go.Proofs.YtljfnfaljadjdaaDoor
