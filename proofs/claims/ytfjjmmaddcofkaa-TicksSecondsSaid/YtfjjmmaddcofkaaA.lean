/- Contracts of the tick functions: Deadline, Left, Least, Wait of the program and of the reference. -/
import Derived.Test.YtfjjmmaddcofkaaBase
namespace Go.Proofs.Ytfjjmmaddcofkaa
open Go.RowKit
set_option linter.unusedSimpArgs false
set_option linter.unusedVariables false

def deadline (now after : Int) : Int := if after > 18446744073709551615 - now then 18446744073709551615 else now + after
def left (now d : Int) : Int := if d = 18446744073709551615 then 18446744073709551615 else if d ≤ now then 0 else d - now
def wait (l : Int) (busy : Bool) : Int := if busy = true then 0 else if l = 18446744073709551615 then 18446744073709551615 else if l ≤ 1048576 then l else 1048576
def least (l : List Int) : Int := l.foldl (fun a b => if b < a then b else a) 18446744073709551615

theorem least_snoc (l : List Int) (x : Int) : least (l ++ [x]) = if x < least l then x else least l := by
  unfold least; rw [List.foldl_append]; rfl

theorem least_step (zs : List Int) (k : Nat) (h : k < zs.length) : least (zs.take (k + 1)) = if zs[k] < least (zs.take k) then zs[k] else least (zs.take k) := by
  rw [List.take_succ_eq_append_getElem h, least_snoc]

set_option maxHeartbeats 400000 in
theorem deadline_any (now after : Int) (w : World) (h0 : 0 ≤ now) (h1 : now ≤ 18446744073709551615) (h2 : 0 ≤ after) (h3 : after ≤ 18446744073709551615) :
    Calls Try.prog 9 #[.int .u64 now, .int .u64 after] w fun e w' => e = .returned (.int .u64 (deadline now after)) ∧ w = w' := by
  unfold deadline
  go_enter Try.func9, Try.ntmps9
  go_wp2
  all_goals (go_ret; exact ⟨rfl, rfl⟩)

set_option maxHeartbeats 400000 in
theorem deadline_ref (now after : Int) (w : World) (h0 : 0 ≤ now) (h1 : now ≤ 18446744073709551615) (h2 : 0 ≤ after) (h3 : after ≤ 18446744073709551615) :
    Calls Try.prog 10 #[.int .u64 now, .int .u64 after] w fun e w' => e = .returned (.int .u64 (deadline now after)) ∧ w = w' := by
  go_enter Try.func10, Try.ntmps10
  go_wp2
  all_goals (go_ret; refine ⟨ret_int ?_, rfl⟩; (try simp only [beq_iff_eq, beq_eq_false_iff_ne, ne_eq, IntKind.wrap_u64] at *); unfold deadline; split <;> omega)

set_option maxHeartbeats 400000 in
theorem left_any (now d : Int) (w : World) (h0 : 0 ≤ now) (h1 : now ≤ 18446744073709551615) (h2 : 0 ≤ d) (h3 : d ≤ 18446744073709551615) :
    Calls Try.prog 11 #[.int .u64 now, .int .u64 d] w fun e w' => e = .returned (.int .u64 (left now d)) ∧ w = w' := by
  go_enter Try.func11, Try.ntmps11
  go_wp2
  all_goals (go_ret; refine ⟨ret_int ?_, rfl⟩; (try simp only [beq_iff_eq, beq_eq_false_iff_ne, ne_eq] at *); unfold left; repeat' split) <;> omega

set_option maxHeartbeats 400000 in
theorem left_ref (now d : Int) (w : World) (h0 : 0 ≤ now) (h1 : now ≤ 18446744073709551615) (h2 : 0 ≤ d) (h3 : d ≤ 18446744073709551615) :
    Calls Try.prog 12 #[.int .u64 now, .int .u64 d] w fun e w' => e = .returned (.int .u64 (left now d)) ∧ w = w' := by
  go_enter Try.func12, Try.ntmps12
  go_wp2
  all_goals (go_ret; refine ⟨ret_int ?_, rfl⟩; (try simp only [beq_iff_eq, beq_eq_false_iff_ne, ne_eq] at *); unfold left; repeat' split) <;> omega

set_option maxHeartbeats 400000 in
theorem wait_any (l : Int) (busy : Bool) (w : World) (h0 : 0 ≤ l) (h1 : l ≤ 18446744073709551615) :
    Calls Try.prog 15 #[.int .u64 l, .bool busy] w fun e w' => e = .returned (.int .u64 (wait l busy)) ∧ w = w' := by
  cases busy
  all_goals
    go_enter Try.func15, Try.ntmps15
    go_wp2
    all_goals (go_ret; refine ⟨ret_int ?_, rfl⟩; (try simp only [beq_iff_eq, beq_eq_false_iff_ne, ne_eq] at *); simp only [wait, if_true, if_false, Bool.false_eq_true]; (try (repeat' split))) <;> (try omega)

set_option maxHeartbeats 400000 in
theorem wait_ref (l : Int) (busy : Bool) (w : World) (h0 : 0 ≤ l) (h1 : l ≤ 18446744073709551615) :
    Calls Try.prog 16 #[.int .u64 l, .bool busy] w fun e w' => e = .returned (.int .u64 (wait l busy)) ∧ w = w' := by
  cases busy
  all_goals
    go_enter Try.func16, Try.ntmps16
    go_wp2
    all_goals (go_ret; refine ⟨ret_int ?_, rfl⟩; (try simp only [beq_iff_eq, bne_iff_ne, bne_eq_false_iff_eq, beq_eq_false_iff_ne, ne_eq] at *); simp only [wait, if_true, if_false, Bool.false_eq_true]; (try (repeat' split))) <;> (try omega)

set_option maxHeartbeats 400000 in
theorem least_any (a : Option Addr) (cap : Nat) (zs : List Int) (w : World) (hz : Ints .u64 w a zs) (hl : zs.length ≤ 100) (hcap : zs.length ≤ cap) :
    Calls Try.prog 13 #[.slice a zs.length cap] w fun e w' => e = .returned (.int .u64 (least zs)) ∧ w = w' := by
  have HZ := Lib.hid hz; clear hz
  go_enter Try.func13, Try.ntmps13
  go_wp2
  go_step3
  go_wp2
  go_step3
  go_wp2
  go_loop [3, 8] (fun t i => ∃ k : Nat, k ≤ zs.length ∧ i = .int .i64 k ∧ t = .int .u64 (least (zs.take k))) (fun _ i => zs.length - (intOf i).toNat)
  case atStart => exact ⟨0, Nat.zero_le _, rfl, rfl⟩
  case round =>
    obtain ⟨k, hk, rfl, rfl⟩ := hrel
    by_cases hlt : k < zs.length
    · obtain ⟨b, off, rfl, hb, hc⟩ := HZ.out (by omega)
      have hck := hc k hlt
      clear hc
      have HS := Lib.hid (least_step zs k hlt)
      go_wp2
      all_goals
        go_round
        case rel => exact ⟨k + 1, by omega, by go_num, by rw [HS.out]; first | rw [if_pos (by assumption)] | rw [if_neg (by omega)]⟩
        case measure => simp [intOf]; omega
    · go_wp2
      go_ret
      exact ⟨ret_int (by rw [List.take_of_length_le (by omega)]), rfl⟩

set_option maxHeartbeats 400000 in
theorem least_ref (a : Option Addr) (cap : Nat) (zs : List Int) (w : World) (hz : Ints .u64 w a zs) (hl : zs.length ≤ 100) (hcap : zs.length ≤ cap) :
    Calls Try.prog 14 #[.slice a zs.length cap] w fun e w' => e = .returned (.int .u64 (least zs)) ∧ w = w' := by
  have HZ := Lib.hid hz; clear hz
  go_enter Try.func14, Try.ntmps14
  go_wp2
  go_loop [3, 4] (fun t i => ∃ k : Nat, k ≤ zs.length ∧ i = .int .i64 k ∧ t = .int .u64 (least (zs.take k))) (fun _ i => zs.length - (intOf i).toNat)
  case atStart => exact ⟨0, Nat.zero_le _, rfl, rfl⟩
  case round =>
    obtain ⟨k, hk, rfl, rfl⟩ := hrel
    by_cases hlt : k < zs.length
    · obtain ⟨b, off, rfl, hb, hc⟩ := HZ.out (by omega)
      have hck := hc k hlt
      clear hc
      have HS := Lib.hid (least_step zs k hlt)
      go_wp2
      all_goals
        go_round
        case rel => exact ⟨k + 1, by omega, by go_num, by rw [HS.out]; first | rw [if_pos (by assumption)] | rw [if_neg (by omega)]⟩
        case measure => simp [intOf]; omega
    · go_wp2
      go_ret
      exact ⟨ret_int (by rw [List.take_of_length_le (by omega)]), rfl⟩

/-- What the law of the deadlines comes to. -/
theorem deadlines_walk (now after : Int) (a : Option Addr) (cap : Nat) (zs : List Int) (busy : Bool) (w : World) (h0 : 0 ≤ now) (h1 : now ≤ 18446744073709551615) (h2 : 0 ≤ after) (h3 : after ≤ 18446744073709551615)
    (hz : Ints .u64 w a zs) (hcap : zs.length ≤ cap) (hm : zs.length ≤ 9223372036854775807) :
    Calls Try.prog 3 #[.int .u64 now, .int .u64 after, .slice a zs.length cap, .bool busy] w fun e w' => e = .returned (.bool true) ∧ Below w.heap.size w w' := by
  have HZ := Lib.hid hz; clear hz
  by_cases hl : zs.length ≤ 100
  · go_enter Try.func3, Try.ntmps3
    go_wp2_with (first
      | (go_at_call 9; refine (deadline_any _ _ _ h0 h1 h2 h3).mono ?_; rintro e w' ⟨rfl, rfl⟩)
      | (go_at_call 10; refine (deadline_ref _ _ _ h0 h1 h2 h3).mono ?_; rintro e w' ⟨rfl, rfl⟩)
      | (go_at_call 11; refine (left_any _ _ _ h0 h1 h2 h3).mono ?_; rintro e w' ⟨rfl, rfl⟩)
      | (go_at_call 12; refine (left_ref _ _ _ h0 h1 h2 h3).mono ?_; rintro e w' ⟨rfl, rfl⟩)
      | (go_at_call 13; refine (least_any _ _ _ _ HZ.out hl hcap).mono ?_; rintro e w' ⟨rfl, rfl⟩)
      | (go_at_call 14; refine (least_ref _ _ _ _ HZ.out hl hcap).mono ?_; rintro e w' ⟨rfl, rfl⟩)
      | (go_at_call 15; refine (wait_any _ _ _ h0 h1).mono ?_; rintro e w' ⟨rfl, rfl⟩)
      | (go_at_call 16; refine (wait_ref _ _ _ h0 h1).mono ?_; rintro e w' ⟨rfl, rfl⟩))
    go_ret
    exact ⟨rfl, Below.refl _ _⟩
  · go_enter Try.func3, Try.ntmps3
    go_wp2_with fail
    go_ret
    exact ⟨rfl, Below.refl _ _⟩

theorem deadlines_top (now after : Int) (a : Option Addr) (len cap : Nat) (z : List Int) (busy : Bool) (w : World) (w0 : (Lit.int .u64 now).wf = true) (w1 : (Lit.int .u64 after).wf = true) (w2 : IsRow .u64 w a len cap z) :
    Calls Try.prog 3 #[.int .u64 now, .int .u64 after, .slice a len cap, .bool busy] w fun e w' => e = .returned (.bool true) ∧ Below w.heap.size w w' := by
  obtain ⟨l, rfl, hc, hm, hi, _⟩ := w2.ints
  exact deadlines_walk now after a cap l busy w (bd_u64 w0).1 (bd_u64 w0).2 (bd_u64 w1).1 (bd_u64 w1).2 hi hc (by unfold maxLen at hm; omega)
end Go.Proofs.Ytfjjmmaddcofkaa
