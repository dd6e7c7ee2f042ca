/- Plain facts: how many numbers a set has, and its greatest one. -/
import Derived.Lib.ItoaNum
import Derived.Test.YtljfnfaljadjdaaDoorT
namespace Go.Proofs.YtljfnfaljadjdaaDoor
open Go.RowKit
set_option linter.unusedSimpArgs false
set_option linter.unusedVariables false
set_option maxRecDepth 100000

/-- How many of the numbers below k. -/
def cnt (p : Nat → Bool) (k : Nat) : Nat := ((List.range k).filter p).length
theorem cnt_add (p : Nat → Bool) (m k : Nat) : cnt p (m + k) = cnt p m + cnt (fun i => p (m + i)) k := by
  unfold cnt
  rw [List.range_add, List.filter_append, List.length_append, List.filter_map, List.length_map]
  rfl
theorem cnt_congr (p q : Nat → Bool) (k : Nat) (h : ∀ i, i < k → p i = q i) : cnt p k = cnt q k := by
  unfold cnt
  rw [List.filter_congr (fun n hn => h n (List.mem_range.1 hn))]
theorem ones8 : ∀ n : Fin 256, Lib.onesCount n.val = cnt n.val.testBit 8 := by decide +kernel
theorem ones_cnt (x k : Nat) : Lib.onesCount (x / 2 ^ k % 256) = cnt (fun i => x.testBit (k + i)) 8 := by
  rw [ones8 ⟨x / 2 ^ k % 256, Nat.mod_lt _ (by decide)⟩]
  apply cnt_congr
  intro i hi
  have := Nat.testBit_mod_two_pow (x / 2 ^ k) 8 i
  rw [show (2 : Nat) ^ 8 = 256 by rfl] at this
  simp only [this, Nat.testBit_div_two_pow, hi, decide_true, Bool.true_and]
  rw [Nat.add_comm]
theorem pc_cnt (x : Nat) (h : x < 4294967296) : pc x = cnt x.testBit 32 := by
  have e1 := ones_cnt x 24
  have e2 := ones_cnt x 16
  have e3 := ones_cnt x 8
  have e4 := ones_cnt x 0
  rw [show x / 2 ^ 24 % 256 = x / 16777216 by omega] at e1
  rw [show (2 : Nat) ^ 16 = 65536 by rfl] at e2
  rw [show (2 : Nat) ^ 8 = 256 by rfl] at e3
  rw [show x / 2 ^ 0 = x by simp] at e4
  have c1 := cnt_add x.testBit 24 8
  have c2 := cnt_add x.testBit 16 8
  have c3 := cnt_add x.testBit 8 8
  simp only [Nat.reduceAdd] at c1 c2 c3
  have e5 : cnt (fun i => x.testBit (0 + i)) 8 = cnt x.testBit 8 := cnt_congr _ _ _ (fun i _ => by rw [Nat.zero_add])
  unfold pc
  omega
theorem L_length (a b : Nat) (ha : a < 4294967296) (hb : b < 4294967296) : (L a b).length = pc a + pc b := by
  have h : (L a b).length = cnt (hasN a b) 64 := by unfold L lst cnt; rw [List.length_map]
  have c := cnt_add (hasN a b) 32 32
  simp only [Nat.reduceAdd] at c
  have e1 : cnt (hasN a b) 32 = cnt a.testBit 32 := cnt_congr _ _ _ (fun i hi => by unfold hasN; rw [if_pos hi])
  have e2 : cnt (fun i => hasN a b (32 + i)) 32 = cnt b.testBit 32 := cnt_congr _ _ _ (fun i hi => by unfold hasN; rw [if_neg (by omega)]; congr 1; omega)
  rw [h, c, e1, e2, pc_cnt a ha, pc_cnt b hb]

/-- The last number of a list; -1: none. -/
def topL (l : List Int) : Int := l.getLast?.getD (-1)
theorem topL_snoc (l : List Int) (x : Int) : topL (l ++ [x]) = x := by simp [topL]
theorem topL_take (l : List Int) (k : Nat) (hk : k < l.length) : topL (l.take (k + 1)) = l[k] := by
  rw [List.take_succ_eq_append_getElem hk, topL_snoc]
theorem lst_up (p : Nat → Bool) (k m : Nat) (hkm : k ≤ m) (h : ∀ i, k ≤ i → i < m → p i = false) : lst p m = lst p k := by
  induction m with
  | zero => obtain rfl : k = 0 := by omega
            rfl
  | succ m ih =>
    by_cases e : k = m + 1
    · rw [e]
    · rw [lst_no _ _ (h m (by omega) (by omega))]
      exact ih (by omega) (fun i h1 h2 => h i h1 (by omega))
theorem bitLen_bit (x : Nat) (h0 : x ≠ 0) (h : x < 4294967296) : 1 ≤ Lib.bitLen x ∧ x.testBit (Lib.bitLen x - 1) = true ∧ ∀ i, Lib.bitLen x ≤ i → x.testBit i = false := by
  obtain ⟨h1, h2, h3⟩ := Lib.bitLenAux_bounds 64 x (by omega) h0
  unfold Lib.bitLen
  refine ⟨h1, ?_, fun i hi => Nat.testBit_lt_two_pow (Nat.lt_of_lt_of_le h3 (Nat.pow_le_pow_right (by decide) hi))⟩
  rw [Nat.testBit_eq_decide_div_mod_eq]
  have e : x / 2 ^ (Lib.bitLenAux 64 x - 1) = 1 := by
    apply Nat.div_eq_of_lt_le
    · omega
    · rw [show (1 + 1) * 2 ^ (Lib.bitLenAux 64 x - 1) = 2 ^ (Lib.bitLenAux 64 x - 1 + 1) by rw [Nat.pow_succ]; omega, Nat.sub_add_cancel h1]; exact h3
  rw [e]; rfl
theorem top_list (a b : Nat) (ha : a < 4294967296) (hb : b < 4294967296) : topN a b = topL (L a b) := by
  unfold topN L
  by_cases h : b = 0
  · subst h
    rw [if_pos rfl, lst_up _ 32 64 (by omega) (fun i h1 h2 => by unfold hasN; rw [if_neg (by omega)]; simp)]
    by_cases h0 : a = 0
    · subst h0
      rw [lst_up _ 0 32 (by omega) (fun i h1 h2 => by unfold hasN; rw [if_pos (by omega)]; simp)]
      rfl
    · obtain ⟨h1, h2, h3⟩ := bitLen_bit a h0 ha
      have h4 := Lib.bitLen_le a 32 (by omega) (by omega)
      rw [lst_up _ (Lib.bitLen a) 32 h4 (fun i h1 h2 => by unfold hasN; rw [if_pos (by omega)]; exact h3 i h1)]
      have := lst_yes (hasN a 0) (Lib.bitLen a - 1) (by unfold hasN; rw [if_pos (by omega)]; exact h2)
      rw [Nat.sub_add_cancel h1] at this
      rw [this, topL_snoc]
      omega
  · obtain ⟨h1, h2, h3⟩ := bitLen_bit b h hb
    have h4 := Lib.bitLen_le b 32 (by omega) (by omega)
    rw [if_neg h, lst_up _ (32 + Lib.bitLen b) 64 (by omega) (fun i h5 h6 => by unfold hasN; rw [if_neg (by omega)]; exact h3 _ (by omega))]
    have := lst_yes (hasN a b) (31 + Lib.bitLen b) (by unfold hasN; rw [if_neg (by omega), show 31 + Lib.bitLen b - 32 = Lib.bitLen b - 1 by omega]; exact h2)
    rw [show 32 + Lib.bitLen b = 31 + Lib.bitLen b + 1 by omega, this, topL_snoc]
    omega
/-- Two sets with the same numbers are the same. -/
theorem word_ext (a b : Nat) (ha : a < 4294967296) (hb : b < 4294967296) (h : ∀ i, i < 32 → a.testBit i = b.testBit i) : a = b := by
  apply Nat.eq_of_testBit_eq
  intro i
  by_cases hi : i < 32
  · exact h i hi
  · have hp : 2 ^ 32 ≤ 2 ^ i := Nat.pow_le_pow_right (by decide) (by omega)
    rw [Nat.testBit_lt_two_pow (by omega), Nat.testBit_lt_two_pow (by omega)]
theorem set_ext (a b c d : Nat) (ha : a < 4294967296) (hb : b < 4294967296) (hc : c < 4294967296) (hd : d < 4294967296) (h : ∀ i, i < 64 → hasN a b i = hasN c d i) : a = c ∧ b = d := by
  constructor
  · exact word_ext a c ha hc (fun i hi => by have := h i (by omega); unfold hasN at this; rwa [if_pos hi, if_pos hi] at this)
  · exact word_ext b d hb hd (fun i hi => by have := h (i + 32) (by omega); unfold hasN at this; rwa [if_neg (by omega), if_neg (by omega), Nat.add_sub_cancel] at this)
end Go.Proofs.YtljfnfaljadjdaaDoor
