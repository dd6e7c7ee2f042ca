/- Plain facts on sets of 64 bits and lists: no program in sight. -/
import Derived.Test.YtljfnfaljadjdaaDoorRow
namespace Go.Proofs.YtljfnfaljadjdaaDoor
open Go.RowKit
set_option linter.unusedSimpArgs false
set_option linter.unusedVariables false

/-- Has the set of the words a, b the number i? -/
def hasN (a b i : Nat) : Bool := if i < 32 then a.testBit i else b.testBit (i - 32)
/-- The numbers below k of which p holds, rising. -/
def lst (p : Nat → Bool) (k : Nat) : List Int := ((List.range k).filter p).map (fun n : Nat => (n : Int))

theorem lst_zero (p : Nat → Bool) : lst p 0 = [] := rfl
theorem lst_yes (p : Nat → Bool) (k : Nat) (h : p k = true) : lst p (k + 1) = lst p k ++ [(k : Int)] := by
  simp [lst, List.range_succ, List.filter_append, List.filter_cons, h]
theorem lst_no (p : Nat → Bool) (k : Nat) (h : p k = false) : lst p (k + 1) = lst p k := by
  simp [lst, List.range_succ, List.filter_append, List.filter_cons, h]
theorem lst_len (p : Nat → Bool) (k : Nat) : (lst p k).length ≤ k := by
  simp only [lst, List.length_map]
  exact Nat.le_trans (List.length_filter_le _ _) (by simp)
theorem mem_lst (p : Nat → Bool) (k : Nat) (x : Int) : x ∈ lst p k ↔ ∃ n : Nat, n < k ∧ p n = true ∧ x = n := by
  simp only [lst, List.mem_map, List.mem_filter, List.mem_range]
  constructor
  · rintro ⟨n, ⟨h1, h2⟩, rfl⟩; exact ⟨n, h1, h2, rfl⟩
  · rintro ⟨n, h1, h2, rfl⟩; exact ⟨n, ⟨h1, h2⟩, rfl⟩
theorem lst_congr (p q : Nat → Bool) (k : Nat) (h : ∀ n, n < k → p n = q n) : lst p k = lst q k := by
  unfold lst
  congr 1
  exact List.filter_congr (fun n hn => h n (List.mem_range.1 hn))

theorem pow_lt (fd : Nat) (h : fd < 32) : 2 ^ fd < 4294967296 := by
  have : 2 ^ fd < 2 ^ 32 := Nat.pow_lt_pow_right (by decide) h
  omega
theorem pow_mod (fd : Nat) (h : fd < 32) : (2 : Int) ^ fd % 4294967296 = ((2 ^ fd : Nat) : Int) := by
  have h1 := pow_lt fd h
  have h2 : ((2 : Int) ^ fd) = ((2 ^ fd : Nat) : Int) := by simp
  rw [h2]
  exact Int.emod_eq_of_lt (Int.natCast_nonneg _) (by omega)
theorem or_lt (a fd : Nat) (ha : a < 4294967296) (h : fd < 32) : a ||| 2 ^ fd < 4294967296 := Nat.or_lt_two_pow (n := 32) (by omega) (pow_lt fd h)
theorem and_lt (a b : Nat) (ha : a < 4294967296) : a &&& b < 4294967296 := Nat.lt_of_le_of_lt Nat.and_le_left ha

theorem test_or (a fd i : Nat) : (a ||| 2 ^ fd).testBit i = (a.testBit i || decide (fd = i)) := by
  rw [Nat.testBit_or, Nat.testBit_two_pow]
theorem test_not (b i : Nat) (hb : b < 4294967296) (hi : i < 32) : (4294967295 - b).testBit i = !b.testBit i := by
  have := Nat.testBit_two_pow_sub_succ (n := 32) (x := b) (by omega) i
  rw [show 2 ^ 32 - (b + 1) = 4294967295 - b by omega] at this
  rw [this]; simp [hi]
theorem shr_and (a fd : Nat) : ((a / 2 ^ fd &&& 1 : Nat) == 1) = a.testBit fd := by
  rw [Nat.and_one_is_mod, Nat.testBit_eq_decide_div_mod_eq]
  rfl
end Go.Proofs.YtljfnfaljadjdaaDoor
