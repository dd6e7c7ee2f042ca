/- Contracts of Pair, FromPair, Single, FromSingle, may and alive, of the program and of the reference; the law of the numbers. -/
import Derived.Test.YtfjjmmaddcofkaaA
namespace Go.Proofs.Ytfjjmmaddcofkaa
open Go.RowKit
set_option linter.unusedSimpArgs false
set_option linter.unusedVariables false

def mayB (wait : Int) : Bool := decide (wait ≤ 1048576 ∨ wait = 18446744073709551615)
def pairE (wait small : Int) : Int := if (small = 1000 ∨ small = 1000000) ∧ (wait ≤ 1048576 ∨ wait = 18446744073709551615) then 0 else 2
def pairC (wait small : Int) : Int := if (small = 1000 ∨ small = 1000000) ∧ (wait ≤ 1048576 ∨ wait = 18446744073709551615) then (if wait = 18446744073709551615 then -1 else wait / 1000) else 0
def pairR (wait small : Int) : Int := if (small = 1000 ∨ small = 1000000) ∧ (wait ≤ 1048576 ∨ wait = 18446744073709551615) then (if wait = 18446744073709551615 then -1 else wait % 1000 * small) else 0

theorem ret_3 {k1 k2 k3 : IntKind} {a b c a' b' c' : Int} (h1 : a = a') (h2 : b = b') (h3 : c = c') : Ending.returned (.tuple #[.int k1 a, .int k2 b, .int k3 c]) = .returned (.tuple #[.int k1 a', .int k2 b', .int k3 c']) := by rw [h1, h2, h3]
theorem ret_2 {k1 k2 : IntKind} {a b a' b' : Int} (h1 : a = a') (h2 : b = b') : Ending.returned (.tuple #[.int k1 a, .int k2 b]) = .returned (.tuple #[.int k1 a', .int k2 b']) := by rw [h1, h2]

theorem pair_cases (x s : Int) (h0 : 0 ≤ x) : 
    (pairC x s = 0 ∧ pairR x s = 0 ∧ pairE x s = 2 ∧ ((s ≠ 1000 ∧ s ≠ 1000000) ∨ (1048576 < x ∧ x ≠ 18446744073709551615))) ∨
    (pairC x s = -1 ∧ pairR x s = -1 ∧ pairE x s = 0 ∧ (s = 1000 ∨ s = 1000000) ∧ x = 18446744073709551615) ∨
    (pairC x s = x / 1000 ∧ pairR x s = x % 1000 * s ∧ pairE x s = 0 ∧ (s = 1000 ∨ s = 1000000) ∧ x ≤ 1048576) := by
  unfold pairC pairR pairE
  by_cases hs : s = 1000 ∨ s = 1000000 <;> by_cases hx : x = 18446744073709551615 <;> by_cases hy : x ≤ 1048576 <;> simp [hs, hx, hy] <;> omega

set_option maxHeartbeats 400000 in
theorem may_any (x : Int) (w : World) (h0 : 0 ≤ x) (h1 : x ≤ 18446744073709551615) :
    Calls Try.prog 30 #[.int .u64 x] w fun e w' => e = .returned (.bool (mayB x)) ∧ w = w' := by
  go_enter Try.func30, Try.ntmps30
  go_wp2
  all_goals (go_ret; refine ⟨ret_bool ?_, rfl⟩; unfold mayB; rw [Bool.eq_iff_iff]; simp; try omega)

set_option maxHeartbeats 400000 in
theorem pair_any (x s : Int) (w : World) (h0 : 0 ≤ x) (h1 : x ≤ 18446744073709551615) :
    Calls Try.prog 17 #[.int .u64 x, .int .i64 s] w fun e w' => e = .returned (.tuple #[.int .i64 (pairC x s), .int .i64 (pairR x s), .int .i64 (pairE x s)]) ∧ w = w' := by
  have HP := Lib.hid (pair_cases x s h0)
  by_cases hs : s = 1000 ∨ s = 1000000
  · by_cases hx : x = 18446744073709551615
    · subst hx
      rcases hs with rfl | rfl
      all_goals
        go_enter Try.func17, Try.ntmps17
        go_wp2
        go_ret3
        have hp := HP.out
        refine ⟨ret_3 ?_ ?_ ?_, rfl⟩ <;> omega
    · have b1 : (x == 18446744073709551615) = false := by simpa using hx
      by_cases hy : x ≤ 1048576
      · rcases hs with rfl | rfl
        all_goals
          go_enter Try.func17, Try.ntmps17
          go_wp2
          go_ret3
          have hp := HP.out
          refine ⟨ret_3 ?_ ?_ ?_, rfl⟩ <;> omega
      · rcases hs with rfl | rfl
        all_goals
          go_enter Try.func17, Try.ntmps17
          go_wp2
          go_ret3
          have hp := HP.out
          refine ⟨ret_3 ?_ ?_ ?_, rfl⟩ <;> omega
  · have b1 : (s == 1000) = false := by simp; omega
    have b2 : (s == 1000000) = false := by simp; omega
    go_enter Try.func17, Try.ntmps17
    go_wp2
    go_ret3
    have hp := HP.out
    refine ⟨ret_3 ?_ ?_ ?_, rfl⟩ <;> omega

set_option maxHeartbeats 1000000 in
theorem pair_ref (x s : Int) (w : World) (h0 : 0 ≤ x) (h1 : x ≤ 18446744073709551615) :
    Calls Try.prog 18 #[.int .u64 x, .int .i64 s] w fun e w' => e = .returned (.tuple #[.int .i64 (pairC x s), .int .i64 (pairR x s), .int .i64 (pairE x s)]) ∧ w = w' := by
  have HP := Lib.hid (pair_cases x s h0)
  by_cases hs : s = 1000 ∨ s = 1000000
  · by_cases hx : x = 18446744073709551615
    · subst hx
      rcases hs with rfl | rfl
      all_goals
        go_enter Try.func18, Try.ntmps18
        go_wp2
        go_ret3
        have hp := HP.out
        refine ⟨ret_3 ?_ ?_ ?_, rfl⟩ <;> omega
    · by_cases hy : x ≤ 1048576
      · rcases hs with rfl | rfl
        all_goals
          go_enter Try.func18, Try.ntmps18
          have b1 : (x == 18446744073709551615) = false := by simpa using hx
          clear hx
          go_wp2
          go_loop [7, 8] (fun c n => ∃ k m : Int, n = .int .i64 m ∧ c = .int .i64 k ∧ 0 ≤ m ∧ 0 ≤ k ∧ m + 1000 * k = x) (fun _ n => (intOf n).toNat)
          case atStart => exact ⟨0, x, rfl, rfl, by omega, by omega, by omega⟩
          case round =>
            obtain ⟨k, m, rfl, rfl, hm0, hk0, hkm⟩ := hrel
            have hk1 : m ≤ 1048576 := by omega
            have hk2 : k ≤ 1048576 := by omega
            have HK := Lib.hid hkm; clear hkm
            by_cases hlt : m < 1000
            · go_wp2
              go_ret3
              have hp := HP.out
              have hkm := HK.out
              refine ⟨ret_3 ?_ ?_ ?_, rfl⟩ <;> omega
            · go_wp2
              go_round
              case rel => exact ⟨k + 1, m - 1000, rfl, rfl, by omega, by omega, by have := HK.out; omega⟩
              case measure => simp [intOf]; omega
      · rcases hs with rfl | rfl
        all_goals
          go_enter Try.func18, Try.ntmps18
          have b1 : (x != 18446744073709551615) = true := by simpa using hx
          go_wp2
          go_ret3
          have hp := HP.out
          refine ⟨ret_3 ?_ ?_ ?_, rfl⟩ <;> omega
  · have b1 : (s != 1000) = true := by simp; omega
    have b2 : (s != 1000000) = true := by simp; omega
    go_enter Try.func18, Try.ntmps18
    go_wp2
    go_ret3
    have hp := HP.out
    refine ⟨ret_3 ?_ ?_ ?_, rfl⟩ <;> omega

def fpBad (c r s : Int) : Prop := c < 0 ∨ c > 1048576 ∨ r < 0 ∨ r ≥ 1000 * s ∨ r % s ≠ 0 ∨ c * 1000 + r / s > 1048576
instance (c r s : Int) : Decidable (fpBad c r s) := by unfold fpBad; infer_instance
def fpW (c r s : Int) : Int := if s ≠ 1000 ∧ s ≠ 1000000 then 0 else if c = -1 ∧ r = -1 then 18446744073709551615 else if fpBad c r s then 0 else c * 1000 + r / s
def fpE (c r s : Int) : Int := if s ≠ 1000 ∧ s ≠ 1000000 then 2 else if c = -1 ∧ r = -1 then 0 else if fpBad c r s then 2 else 0

theorem fp_cases (c r s : Int) :
    (s ≠ 1000 ∧ s ≠ 1000000 ∧ fpW c r s = 0 ∧ fpE c r s = 2) ∨
    ((s = 1000 ∨ s = 1000000) ∧ c = -1 ∧ r = -1 ∧ fpW c r s = 18446744073709551615 ∧ fpE c r s = 0) ∨
    ((s = 1000 ∨ s = 1000000) ∧ (c ≠ -1 ∨ r ≠ -1) ∧ (c < 0 ∨ c > 1048576 ∨ r < 0 ∨ r ≥ 1000 * s ∨ r % s ≠ 0 ∨ c * 1000 + r / s > 1048576) ∧ fpW c r s = 0 ∧ fpE c r s = 2) ∨
    ((s = 1000 ∨ s = 1000000) ∧ 0 ≤ c ∧ c ≤ 1048576 ∧ 0 ≤ r ∧ r < 1000 * s ∧ r % s = 0 ∧ c * 1000 + r / s ≤ 1048576 ∧ fpW c r s = c * 1000 + r / s ∧ fpE c r s = 0) := by
  by_cases hs : s ≠ 1000 ∧ s ≠ 1000000
  · exact .inl ⟨hs.1, hs.2, by simp [fpW, hs], by simp [fpE, hs]⟩
  · by_cases hc : c = -1 ∧ r = -1
    · exact .inr (.inl ⟨by omega, hc.1, hc.2, by rw [fpW, if_neg hs, if_pos hc], by rw [fpE, if_neg hs, if_pos hc]⟩)
    · by_cases hb : fpBad c r s
      · exact .inr (.inr (.inl ⟨by omega, by omega, hb, by rw [fpW, if_neg hs, if_neg hc, if_pos hb], by rw [fpE, if_neg hs, if_neg hc, if_pos hb]⟩))
      · refine .inr (.inr (.inr ?_))
        have e1 : fpW c r s = c * 1000 + r / s := by rw [fpW, if_neg hs, if_neg hc, if_neg hb]
        have e2 : fpE c r s = 0 := by rw [fpE, if_neg hs, if_neg hc, if_neg hb]
        unfold fpBad at hb
        omega

set_option maxHeartbeats 1000000 in
theorem fromPair_any (c r s : Int) (w : World) (hc1 : -9223372036854775808 ≤ c) (hc2 : c ≤ 9223372036854775807) (hr1 : -9223372036854775808 ≤ r) (hr2 : r ≤ 9223372036854775807) :
    Calls Try.prog 19 #[.int .i64 c, .int .i64 r, .int .i64 s] w fun e w' => e = .returned (.tuple #[.int .u64 (fpW c r s), .int .i64 (fpE c r s)]) ∧ w = w' := by
  have HP := Lib.hid (fp_cases c r s)
  by_cases hs : s = 1000 ∨ s = 1000000
  · by_cases hm : c = -1 ∧ r = -1
    · obtain ⟨rfl, rfl⟩ := hm
      rcases hs with rfl | rfl
      all_goals
        go_enter Try.func19, Try.ntmps19
        go_wp2
        go_ret2
        have hp := HP.out
        refine ⟨ret_2 ?_ ?_, rfl⟩ <;> omega
    · rcases hs with rfl | rfl
      all_goals
        go_enter Try.func19, Try.ntmps19
        go_wp2
        all_goals
          go_ret2
          refine ⟨ret_2 ?_ ?_, rfl⟩
          all_goals
            go_tidy
            (try simp only [beq_iff_eq, beq_eq_false_iff_ne, ne_eq, bne_iff_ne, bne_eq_false_iff_eq] at *)
            first | (have hp := fp_cases c r 1000; omega) | (have hp := fp_cases c r 1000000; omega) | (have hp := fp_cases (-1) r 1000; omega) | (have hp := fp_cases (-1) r 1000000; omega)
  · have b1 : (s != 1000) = true := by simp; omega
    have b2 : (s != 1000000) = true := by simp; omega
    go_enter Try.func19, Try.ntmps19
    go_wp2
    go_ret2
    have hp := HP.out
    refine ⟨ret_2 ?_ ?_, rfl⟩ <;> omega

set_option maxHeartbeats 2000000 in
theorem fromPair_ref (c r s : Int) (w : World) (hc1 : -9223372036854775808 ≤ c) (hc2 : c ≤ 9223372036854775807) (hr1 : -9223372036854775808 ≤ r) (hr2 : r ≤ 9223372036854775807) :
    Calls Try.prog 20 #[.int .i64 c, .int .i64 r, .int .i64 s] w fun e w' => e = .returned (.tuple #[.int .u64 (fpW c r s), .int .i64 (fpE c r s)]) ∧ w = w' := by
  by_cases hs : s = 1000 ∨ s = 1000000
  · by_cases hm : c = -1 ∧ r = -1
    · obtain ⟨rfl, rfl⟩ := hm
      rcases hs with rfl | rfl
      all_goals
        go_enter Try.func20, Try.ntmps20
        go_wp2_with fail
        go_ret2
        refine ⟨ret_2 ?_ ?_, rfl⟩
        all_goals first | (have hp := fp_cases (-1) (-1) 1000; omega) | (have hp := fp_cases (-1) (-1) 1000000; omega)
    · rcases hs with rfl | rfl
      · go_enter Try.func20, Try.ntmps20
        go_wp2_with (go_at_call 18; refine (pair_ref _ _ _ (by omega) (by omega)).mono ?_; rintro e w' ⟨rfl, rfl⟩)
        all_goals
          go_ret2
          refine ⟨ret_2 ?_ ?_, rfl⟩
          all_goals
            go_tidy
            (try simp only [beq_iff_eq, beq_eq_false_iff_ne, ne_eq, bne_iff_ne, bne_eq_false_iff_eq] at *)
            first | (have hp := fp_cases c r 1000; omega) | (have hp := fp_cases (-1) r 1000; omega) | (have hp := fp_cases c r 1000; have hq := pair_cases (c * 1000 + r / 1000) 1000 (by omega); omega)
      · go_enter Try.func20, Try.ntmps20
        go_wp2_with (go_at_call 18; refine (pair_ref _ _ _ (by omega) (by omega)).mono ?_; rintro e w' ⟨rfl, rfl⟩)
        all_goals
          go_ret2
          refine ⟨ret_2 ?_ ?_, rfl⟩
          all_goals
            go_tidy
            (try simp only [beq_iff_eq, beq_eq_false_iff_ne, ne_eq, bne_iff_ne, bne_eq_false_iff_eq] at *)
            first | (have hp := fp_cases c r 1000000; omega) | (have hp := fp_cases (-1) r 1000000; omega) | (have hp := fp_cases c r 1000000; have hq := pair_cases (c * 1000 + r / 1000000) 1000000 (by omega); omega)
  · have b1 : (s != 1000) = true := by simp; omega
    have b2 : (s != 1000000) = true := by simp; omega
    go_enter Try.func20, Try.ntmps20
    go_wp2_with fail
    go_ret2
    refine ⟨ret_2 ?_ ?_, rfl⟩ <;> (have hp := fp_cases c r s; omega)

def sgN (x : Int) : Int := if x = 18446744073709551615 then -1 else if x ≤ 1048576 then x else 0
def sgE (x : Int) : Int := if x = 18446744073709551615 then 0 else if x ≤ 1048576 then 0 else 2
def fsW (n : Int) : Int := if n = -1 then 18446744073709551615 else if n < 0 ∨ n > 1048576 then 0 else n
def fsE (n : Int) : Int := if n = -1 then 0 else if n < 0 ∨ n > 1048576 then 2 else 0
theorem sg_cases (x : Int) : (x = 18446744073709551615 ∧ sgN x = -1 ∧ sgE x = 0) ∨ (x ≤ 1048576 ∧ sgN x = x ∧ sgE x = 0) ∨ (x ≠ 18446744073709551615 ∧ 1048576 < x ∧ sgN x = 0 ∧ sgE x = 2) := by
  unfold sgN sgE; split
  · omega
  · split <;> omega
theorem fs_cases (n : Int) : (n = -1 ∧ fsW n = 18446744073709551615 ∧ fsE n = 0) ∨ (n ≠ -1 ∧ (n < 0 ∨ n > 1048576) ∧ fsW n = 0 ∧ fsE n = 2) ∨ (0 ≤ n ∧ n ≤ 1048576 ∧ fsW n = n ∧ fsE n = 0) := by
  unfold fsW fsE; split
  · omega
  · split <;> omega

set_option maxHeartbeats 400000 in
theorem single_any (x : Int) (w : World) (h0 : 0 ≤ x) (h1 : x ≤ 18446744073709551615) :
    Calls Try.prog 21 #[.int .u64 x] w fun e w' => e = .returned (.tuple #[.int .i64 (sgN x), .int .i64 (sgE x)]) ∧ w = w' := by
  by_cases hx : x = 18446744073709551615
  · subst hx
    go_enter Try.func21, Try.ntmps21
    go_wp2
    go_ret2
    refine ⟨ret_2 ?_ ?_, rfl⟩ <;> (have hp := sg_cases 18446744073709551615; omega)
  · have b1 : (x == 18446744073709551615) = false := by simpa using hx
    by_cases hy : x ≤ 1048576
    all_goals
      go_enter Try.func21, Try.ntmps21
      go_wp2
      go_ret2
      refine ⟨ret_2 ?_ ?_, rfl⟩ <;> (have hp := sg_cases x; omega)

set_option maxHeartbeats 400000 in
theorem single_ref (x : Int) (w : World) (h0 : 0 ≤ x) (h1 : x ≤ 18446744073709551615) :
    Calls Try.prog 22 #[.int .u64 x] w fun e w' => e = .returned (.tuple #[.int .i64 (sgN x), .int .i64 (sgE x)]) ∧ w = w' := by
  go_enter Try.func22, Try.ntmps22
  go_wp2
  all_goals
    go_ret2
    refine ⟨ret_2 ?_ ?_, rfl⟩
    all_goals
      go_tidy
      (try simp only [beq_iff_eq, beq_eq_false_iff_ne, ne_eq, bne_iff_ne, bne_eq_false_iff_eq] at *)
      have hp := sg_cases x
      omega

set_option maxHeartbeats 400000 in
theorem fromSingle_any (x : Int) (w : World) (h0 : -9223372036854775808 ≤ x) (h1 : x ≤ 9223372036854775807) :
    Calls Try.prog 23 #[.int .i64 x] w fun e w' => e = .returned (.tuple #[.int .u64 (fsW x), .int .i64 (fsE x)]) ∧ w = w' := by
  go_enter Try.func23, Try.ntmps23
  go_wp2
  all_goals
    go_ret2
    refine ⟨ret_2 ?_ ?_, rfl⟩
    all_goals
      go_tidy
      (try simp only [beq_iff_eq, beq_eq_false_iff_ne, ne_eq, bne_iff_ne, bne_eq_false_iff_eq] at *)
      have hp := fs_cases x
      omega

set_option maxHeartbeats 400000 in
theorem fromSingle_ref (x : Int) (w : World) (h0 : -9223372036854775808 ≤ x) (h1 : x ≤ 9223372036854775807) :
    Calls Try.prog 24 #[.int .i64 x] w fun e w' => e = .returned (.tuple #[.int .u64 (fsW x), .int .i64 (fsE x)]) ∧ w = w' := by
  go_enter Try.func24, Try.ntmps24
  go_wp2
  all_goals
    go_ret2
    refine ⟨ret_2 ?_ ?_, rfl⟩
    all_goals
      go_tidy
      (try simp only [beq_iff_eq, beq_eq_false_iff_ne, ne_eq, bne_iff_ne, bne_eq_false_iff_eq] at *)
      have hp := fs_cases x
      omega
end Go.Proofs.Ytfjjmmaddcofkaa
