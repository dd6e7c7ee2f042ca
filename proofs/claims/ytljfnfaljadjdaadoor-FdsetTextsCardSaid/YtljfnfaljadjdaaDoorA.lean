/- Sets: Has, With, Without, And, Or, Less. -/
import Derived.Test.YtljfnfaljadjdaaDoorM
namespace Go.Proofs.YtljfnfaljadjdaaDoor
open Go.RowKit
set_option linter.unusedSimpArgs false
set_option linter.unusedVariables false

set_option maxHeartbeats 400000 in
theorem fits_yes (fd : Int) (w : World) (h0 : 0 ≤ fd) (h1 : fd < 64) : Calls Tryd.prog 29 #[.int .i64 fd] w fun e w' => e = .returned (.bool true) ∧ w = w' := by
  go_enter Tryd.func29, Tryd.ntmps29
  go_wp2
  go_ret
  exact ⟨ret_bool (by first | rfl | (simp; done) | (simp; omega)), rfl⟩
set_option maxHeartbeats 400000 in
theorem fits_no (fd : Int) (w : World) (h : fd < 0 ∨ 64 ≤ fd) : Calls Tryd.prog 29 #[.int .i64 fd] w fun e w' => e = .returned (.bool false) ∧ w = w' := by
  rcases (show fd < 0 ∨ (0 ≤ fd ∧ 64 ≤ fd) by omega) with h | ⟨h, h'⟩
  all_goals
    go_enter Tryd.func29, Tryd.ntmps29
    go_wp2
    go_ret
    exact ⟨ret_bool (by first | rfl | (simp; done) | (simp; omega)), rfl⟩

theorem beq_cast (x y : Nat) : (((x : Int)) == ((y : Nat) : Int)) = (x == y) := by
  rw [Bool.eq_iff_iff, beq_iff_eq, beq_iff_eq]; omega

/-- The value of a set. -/
def sv (a b : Nat) : Value := .agg #[.int .u32 a, .int .u32 b]
/-- A set's words with one number more, or less. -/
def wiA (a fd : Nat) : Nat := if fd < 32 then a ||| 2 ^ fd else a
def wiB (b fd : Nat) : Nat := if fd < 32 then b else b ||| 2 ^ (fd - 32)
def woA (a fd : Nat) : Nat := if fd < 32 then a &&& (4294967295 - 2 ^ fd) else a
def woB (b fd : Nat) : Nat := if fd < 32 then b else b &&& (4294967295 - 2 ^ (fd - 32))

theorem ret_agg {x y x' y' : Int} (h1 : x = x') (h2 : y = y') : Ending.returned (.agg #[.int .u32 x, .int .u32 y]) = .returned (.agg #[.int .u32 x', .int .u32 y']) := by rw [h1, h2]

set_option maxHeartbeats 1000000 in
theorem has_yes (a b : Nat) (fd : Int) (w : World) (ha : a < 4294967296) (hb : b < 4294967296) (h0 : 0 ≤ fd) (h1 : fd < 64) :
    Calls Tryd.prog 14 #[.agg #[.int .u32 a, .int .u32 b], .int .i64 fd] w fun e w' => e = .returned (.bool (hasN a b fd.toNat)) ∧ Below w.heap.size w w' := by
  by_cases hlo : fd < 32
  · obtain ⟨k, rfl⟩ := Int.eq_ofNat_of_zero_le h0
    have hk : k < 32 := by omega
    have q1 : ((k : Int)) / 32 = 0 := by omega
    have q2 : ((k : Int)) % 32 = k := by omega
    go_enter Tryd.func14, Tryd.ntmps14
    go_wp2_with (go_at_call 29; refine (fits_yes _ _ (by omega) (by omega)).mono ?_; rintro e w' ⟨rfl, rfl⟩)
    go_ret
    refine ⟨ret_bool ?_, (Below.refl _ _).alloc (Nat.le_refl _) _⟩
    rw [show ((a : Int) / 2 ^ k) = ((a / 2 ^ k : Nat) : Int) by simp, show (1 : Int) = ((1 : Nat) : Int) by rfl, u32_and_nat _ _ (Nat.lt_of_le_of_lt (Nat.div_le_self _ _) ha) (by omega)]
    have := shr_and a k
    simp only [hasN, Int.toNat_natCast, hk, if_true]
    rw [← this]
    exact beq_cast _ _
  · obtain ⟨k, hk0⟩ := Int.eq_ofNat_of_zero_le (show 0 ≤ fd - 32 by omega)
    obtain rfl : fd = (k : Int) + 32 := by omega
    have hk : k < 32 := by omega
    have q1 : ((k : Int) + 32) / 32 = 1 := by omega
    have q2 : ((k : Int) + 32) % 32 = k := by omega
    clear hk0
    go_enter Tryd.func14, Tryd.ntmps14
    go_wp2_with (go_at_call 29; refine (fits_yes _ _ (by omega) (by omega)).mono ?_; rintro e w' ⟨rfl, rfl⟩)
    go_ret
    refine ⟨ret_bool ?_, (Below.refl _ _).alloc (Nat.le_refl _) _⟩
    rw [show ((b : Int) / 2 ^ k) = ((b / 2 ^ k : Nat) : Int) by simp, show (1 : Int) = ((1 : Nat) : Int) by rfl, u32_and_nat _ _ (Nat.lt_of_le_of_lt (Nat.div_le_self _ _) hb) (by omega)]
    have := shr_and b k
    have e2 : ((k : Int) + 32).toNat = k + 32 := by omega
    rw [e2]
    simp only [hasN, show ¬ k + 32 < 32 by omega, if_false, Nat.add_sub_cancel]
    rw [← this]
    exact beq_cast _ _
set_option maxHeartbeats 1000000 in
theorem has_no (a b : Nat) (fd : Int) (w : World) (h : fd < 0 ∨ 64 ≤ fd) :
    Calls Tryd.prog 14 #[.agg #[.int .u32 a, .int .u32 b], .int .i64 fd] w fun e w' => e = .returned (.bool false) ∧ Below w.heap.size w w' := by
  have H := Lib.hid h; clear h
  go_enter Tryd.func14, Tryd.ntmps14
  go_wp2_with (go_at_call 29; refine (fits_no _ _ H.out).mono ?_; rintro e w' ⟨rfl, rfl⟩)
  go_ret
  exact ⟨rfl, (Below.refl _ _).alloc (Nat.le_refl _) _⟩

set_option maxHeartbeats 1000000 in
theorem with_yes (a b : Nat) (fd : Int) (w : World) (ha : a < 4294967296) (hb : b < 4294967296) (h0 : 0 ≤ fd) (h1 : fd < 64) :
    Calls Tryd.prog 11 #[.agg #[.int .u32 a, .int .u32 b], .int .i64 fd] w fun e w' => e = .returned (.tuple #[sv (wiA a fd.toNat) (wiB b fd.toNat), .int .i64 0]) ∧ Below w.heap.size w w' := by
  by_cases hlo : fd < 32
  · obtain ⟨k, rfl⟩ := Int.eq_ofNat_of_zero_le h0
    have hk : k < 32 := by omega
    have q1 : ((k : Int)) / 32 = 0 := by omega
    have q2 : ((k : Int)) % 32 = k := by omega
    have e : bits .or .u32 (a : Int) (2 ^ k % 4294967296) = ((a ||| 2 ^ k : Nat) : Int) := by rw [pow_mod k hk, u32_or_nat _ _ ha (pow_lt k hk)]
    have E := Lib.hid e; clear e
    have hs : sv (wiA a (k : Int).toNat) (wiB b (k : Int).toNat) = .agg #[.int .u32 ((a ||| 2 ^ k : Nat) : Int), .int .u32 b] := by simp [sv, wiA, wiB, hk]
    rw [hs, ← E.out]
    clear hs
    go_enter Tryd.func11, Tryd.ntmps11
    go_wp2_with (go_at_call 29; refine (fits_yes _ _ (by omega) (by omega)).mono ?_; rintro e w' ⟨rfl, rfl⟩)
    go_region
    go_wp2
    refine bodyPost_ret (v := .tuple #[.agg #[.int .u32 (bits .or .u32 (a : Int) (2 ^ k % 4294967296)), .int .u32 b], .int .i64 0]) (by simp [results, Tryd.results11, go_sem]) rfl ⟨rfl, ?_⟩
    exact (((Below.refl _ _).alloc (Nat.le_refl _) _).alloc (by simp) _).drew
  · obtain ⟨k, hk0⟩ := Int.eq_ofNat_of_zero_le (show 0 ≤ fd - 32 by omega)
    obtain rfl : fd = (k : Int) + 32 := by omega
    have hk : k < 32 := by omega
    have q1 : ((k : Int) + 32) / 32 = 1 := by omega
    have q2 : ((k : Int) + 32) % 32 = k := by omega
    clear hk0
    have e : bits .or .u32 (b : Int) (2 ^ k % 4294967296) = ((b ||| 2 ^ k : Nat) : Int) := by rw [pow_mod k hk, u32_or_nat _ _ hb (pow_lt k hk)]
    have E := Lib.hid e; clear e
    have hs : sv (wiA a ((k : Int) + 32).toNat) (wiB b ((k : Int) + 32).toNat) = .agg #[.int .u32 a, .int .u32 ((b ||| 2 ^ k : Nat) : Int)] := by
      rw [show ((k : Int) + 32).toNat = k + 32 by omega]; simp [sv, wiA, wiB, show ¬ k + 32 < 32 by omega]
    rw [hs, ← E.out]
    clear hs
    go_enter Tryd.func11, Tryd.ntmps11
    go_wp2_with (go_at_call 29; refine (fits_yes _ _ (by omega) (by omega)).mono ?_; rintro e w' ⟨rfl, rfl⟩)
    go_region
    go_wp2
    refine bodyPost_ret (v := .tuple #[.agg #[.int .u32 a, .int .u32 (bits .or .u32 (b : Int) (2 ^ k % 4294967296))], .int .i64 0]) (by simp [results, Tryd.results11, go_sem]) rfl ⟨rfl, ?_⟩
    exact (((Below.refl _ _).alloc (Nat.le_refl _) _).alloc (by simp) _).drew
set_option maxHeartbeats 1000000 in
theorem with_no (a b : Nat) (fd : Int) (w : World) (h : fd < 0 ∨ 64 ≤ fd) :
    Calls Tryd.prog 11 #[.agg #[.int .u32 a, .int .u32 b], .int .i64 fd] w fun e w' => e = .returned (.tuple #[sv 0 0, .int .i64 10]) ∧ Below w.heap.size w w' := by
  have H := Lib.hid h; clear h
  go_enter Tryd.func11, Tryd.ntmps11
  go_wp2_with (go_at_call 29; refine (fits_no _ _ H.out).mono ?_; rintro e w' ⟨rfl, rfl⟩)
  refine bodyPost_ret (v := .tuple #[.agg #[.int .u32 0, .int .u32 0], .int .i64 10]) (by simp [results, Tryd.results11, go_sem]) rfl ⟨rfl, ?_⟩
  repeat (first | exact Below.refl _ _ | refine Below.setCell ?_ (by first | (simp; done) | (simp; omega)) _ | refine Below.alloc ?_ (by first | (simp; done) | (simp; omega)) _)

set_option maxHeartbeats 1000000 in
theorem without_yes (a b : Nat) (fd : Int) (w : World) (ha : a < 4294967296) (hb : b < 4294967296) (h0 : 0 ≤ fd) (h1 : fd < 64) :
    Calls Tryd.prog 12 #[.agg #[.int .u32 a, .int .u32 b], .int .i64 fd] w fun e w' => e = .returned (sv (woA a fd.toNat) (woB b fd.toNat)) ∧ Below w.heap.size w w' := by
  by_cases hlo : fd < 32
  · obtain ⟨k, rfl⟩ := Int.eq_ofNat_of_zero_le h0
    have hk : k < 32 := by omega
    have q1 : ((k : Int)) / 32 = 0 := by omega
    have q2 : ((k : Int)) % 32 = k := by omega
    have e : bits .andNot .u32 (a : Int) (2 ^ k % 4294967296) = ((a &&& (4294967295 - 2 ^ k) : Nat) : Int) := by rw [pow_mod k hk, u32_andNot_nat _ _ ha (pow_lt k hk)]
    have E := Lib.hid e; clear e
    have hs : sv (woA a (k : Int).toNat) (woB b (k : Int).toNat) = .agg #[.int .u32 ((a &&& (4294967295 - 2 ^ k) : Nat) : Int), .int .u32 b] := by simp [sv, woA, woB, hk]
    rw [hs, ← E.out]
    clear hs
    go_enter Tryd.func12, Tryd.ntmps12
    go_wp2_with (go_at_call 29; refine (fits_yes _ _ (by omega) (by omega)).mono ?_; rintro e w' ⟨rfl, rfl⟩)
    go_region
    go_wp2
    refine bodyPost_ret (v := .agg #[.int .u32 (bits .andNot .u32 (a : Int) (2 ^ k % 4294967296)), .int .u32 b]) (by simp [results, Tryd.results12, go_sem]) rfl ⟨rfl, ?_⟩
    exact (((Below.refl _ _).alloc (Nat.le_refl _) _).alloc (by simp) _).drew
  · obtain ⟨k, hk0⟩ := Int.eq_ofNat_of_zero_le (show 0 ≤ fd - 32 by omega)
    obtain rfl : fd = (k : Int) + 32 := by omega
    have hk : k < 32 := by omega
    have q1 : ((k : Int) + 32) / 32 = 1 := by omega
    have q2 : ((k : Int) + 32) % 32 = k := by omega
    clear hk0
    have e : bits .andNot .u32 (b : Int) (2 ^ k % 4294967296) = ((b &&& (4294967295 - 2 ^ k) : Nat) : Int) := by rw [pow_mod k hk, u32_andNot_nat _ _ hb (pow_lt k hk)]
    have E := Lib.hid e; clear e
    have hs : sv (woA a ((k : Int) + 32).toNat) (woB b ((k : Int) + 32).toNat) = .agg #[.int .u32 a, .int .u32 ((b &&& (4294967295 - 2 ^ k) : Nat) : Int)] := by
      rw [show ((k : Int) + 32).toNat = k + 32 by omega]; simp [sv, woA, woB, show ¬ k + 32 < 32 by omega]
    rw [hs, ← E.out]
    clear hs
    go_enter Tryd.func12, Tryd.ntmps12
    go_wp2_with (go_at_call 29; refine (fits_yes _ _ (by omega) (by omega)).mono ?_; rintro e w' ⟨rfl, rfl⟩)
    go_region
    go_wp2
    refine bodyPost_ret (v := .agg #[.int .u32 a, .int .u32 (bits .andNot .u32 (b : Int) (2 ^ k % 4294967296))]) (by simp [results, Tryd.results12, go_sem]) rfl ⟨rfl, ?_⟩
    exact (((Below.refl _ _).alloc (Nat.le_refl _) _).alloc (by simp) _).drew
set_option maxHeartbeats 1000000 in
theorem without_no (a b : Nat) (fd : Int) (w : World) (h : fd < 0 ∨ 64 ≤ fd) :
    Calls Tryd.prog 12 #[.agg #[.int .u32 a, .int .u32 b], .int .i64 fd] w fun e w' => e = .returned (sv a b) ∧ Below w.heap.size w w' := by
  have H := Lib.hid h; clear h
  go_enter Tryd.func12, Tryd.ntmps12
  go_wp2_with (go_at_call 29; refine (fits_no _ _ H.out).mono ?_; rintro e w' ⟨rfl, rfl⟩)
  refine bodyPost_ret (v := .agg #[.int .u32 a, .int .u32 b]) (by simp [results, Tryd.results12, go_sem]) rfl ⟨rfl, ?_⟩
  repeat (first | exact Below.refl _ _ | refine Below.setCell ?_ (by first | (simp; done) | (simp; omega)) _ | refine Below.alloc ?_ (by first | (simp; done) | (simp; omega)) _)

set_option maxHeartbeats 1000000 in
theorem and_any (a b c d : Nat) (w : World) (ha : a < 4294967296) (hb : b < 4294967296) (hc : c < 4294967296) (hd : d < 4294967296) :
    Calls Tryd.prog 17 #[.agg #[.int .u32 a, .int .u32 b], .agg #[.int .u32 c, .int .u32 d]] w fun e w' => e = .returned (sv (a &&& c) (b &&& d)) ∧ Below w.heap.size w w' := by
  have hs : sv (a &&& c) (b &&& d) = .agg #[.int .u32 (bits .and .u32 (a : Int) c), .int .u32 (bits .and .u32 (b : Int) d)] := by rw [u32_and_nat _ _ ha hc, u32_and_nat _ _ hb hd]; rfl
  rw [hs]
  clear hs
  go_enter Tryd.func17, Tryd.ntmps17
  go_wp2
  refine bodyPost_ret (v := .agg #[.int .u32 (bits .and .u32 (a : Int) c), .int .u32 (bits .and .u32 (b : Int) d)]) (by simp [results, Tryd.results17, go_sem]) rfl ⟨rfl, ?_⟩
  repeat (first | exact Below.refl _ _ | refine Below.setCell ?_ (by first | (simp; done) | (simp; omega)) _ | refine Below.alloc ?_ (by first | (simp; done) | (simp; omega)) _)
set_option maxHeartbeats 1000000 in
theorem or_any (a b c d : Nat) (w : World) (ha : a < 4294967296) (hb : b < 4294967296) (hc : c < 4294967296) (hd : d < 4294967296) :
    Calls Tryd.prog 15 #[.agg #[.int .u32 a, .int .u32 b], .agg #[.int .u32 c, .int .u32 d]] w fun e w' => e = .returned (sv (a ||| c) (b ||| d)) ∧ Below w.heap.size w w' := by
  have hs : sv (a ||| c) (b ||| d) = .agg #[.int .u32 (bits .or .u32 (a : Int) c), .int .u32 (bits .or .u32 (b : Int) d)] := by rw [u32_or_nat _ _ ha hc, u32_or_nat _ _ hb hd]; rfl
  rw [hs]
  clear hs
  go_enter Tryd.func15, Tryd.ntmps15
  go_wp2
  refine bodyPost_ret (v := .agg #[.int .u32 (bits .or .u32 (a : Int) c), .int .u32 (bits .or .u32 (b : Int) d)]) (by simp [results, Tryd.results15, go_sem]) rfl ⟨rfl, ?_⟩
  repeat (first | exact Below.refl _ _ | refine Below.setCell ?_ (by first | (simp; done) | (simp; omega)) _ | refine Below.alloc ?_ (by first | (simp; done) | (simp; omega)) _)
set_option maxHeartbeats 1000000 in
theorem less_any (a b c d : Nat) (w : World) (ha : a < 4294967296) (hb : b < 4294967296) (hc : c < 4294967296) (hd : d < 4294967296) :
    Calls Tryd.prog 16 #[.agg #[.int .u32 a, .int .u32 b], .agg #[.int .u32 c, .int .u32 d]] w fun e w' => e = .returned (sv (a &&& (4294967295 - c)) (b &&& (4294967295 - d))) ∧ Below w.heap.size w w' := by
  have hs : sv (a &&& (4294967295 - c)) (b &&& (4294967295 - d)) = .agg #[.int .u32 (bits .andNot .u32 (a : Int) c), .int .u32 (bits .andNot .u32 (b : Int) d)] := by rw [u32_andNot_nat _ _ ha hc, u32_andNot_nat _ _ hb hd]; rfl
  rw [hs]
  clear hs
  go_enter Tryd.func16, Tryd.ntmps16
  go_wp2
  refine bodyPost_ret (v := .agg #[.int .u32 (bits .andNot .u32 (a : Int) c), .int .u32 (bits .andNot .u32 (b : Int) d)]) (by simp [results, Tryd.results16, go_sem]) rfl ⟨rfl, ?_⟩
  repeat (first | exact Below.refl _ _ | refine Below.setCell ?_ (by first | (simp; done) | (simp; omega)) _ | refine Below.alloc ?_ (by first | (simp; done) | (simp; omega)) _)
end Go.Proofs.YtljfnfaljadjdaaDoor
