/- The laws of the way back and of the order. -/
import Derived.Test.YtfjjmmaddcofkaaC
namespace Go.Proofs.Ytfjjmmaddcofkaa
open Go.RowKit
set_option linter.unusedSimpArgs false
set_option linter.unusedVariables false

theorem deadline_bd (now after : Int) (h0 : 0 ≤ now) (h1 : now ≤ 18446744073709551615) (h2 : 0 ≤ after) (h3 : after ≤ 18446744073709551615) : now ≤ deadline now after ∧ deadline now after ≤ 18446744073709551615 := by
  unfold deadline; split <;> omega
theorem left_bd (now d : Int) (h0 : 0 ≤ now) (h3 : d ≤ 18446744073709551615) : 0 ≤ left now d ∧ left now d ≤ 18446744073709551615 := by
  unfold left; split
  · omega
  · split <;> omega
theorem back1 (now after : Int) (h0 : 0 ≤ now) (h1 : now ≤ 18446744073709551615) (h2 : 0 ≤ after) (h3 : after ≤ 18446744073709551615) : deadline now (left now (deadline now after)) = deadline now after := by
  unfold deadline left; repeat' split
  all_goals omega
theorem back2 (now after : Int) (h0 : 0 ≤ now) (h1 : now ≤ 18446744073709551615) (h2 : 0 ≤ after) (h3 : after ≤ 18446744073709551615) (h : deadline now after ≠ 18446744073709551615) : left now (deadline now after) = after := by
  revert h
  unfold deadline left; repeat' split
  all_goals omega
theorem wait_cases (x : Int) (h0 : 0 ≤ x) : (x = 18446744073709551615 ∧ wait x false = 18446744073709551615) ∨ (wait x false ≤ x ∧ 0 ≤ wait x false ∧ wait x false ≤ 1048576) := by
  simp only [wait, Bool.false_eq_true, if_false]; repeat' split
  all_goals omega

/-- Of a wait that a kernel takes: all that the law asks. -/
structure Taken (v : Int) : Prop where
  lo : 0 ≤ v
  hi : v ≤ 18446744073709551615
  e1 : pairE v 1000 = 0
  e2 : pairE v 1000000 = 0
  c1 : -9223372036854775808 ≤ pairC v 1000
  c1' : pairC v 1000 ≤ 9223372036854775807
  r1 : -9223372036854775808 ≤ pairR v 1000
  r1' : pairR v 1000 ≤ 9223372036854775807
  c2 : -9223372036854775808 ≤ pairC v 1000000
  c2' : pairC v 1000000 ≤ 9223372036854775807
  r2 : -9223372036854775808 ≤ pairR v 1000000
  r2' : pairR v 1000000 ≤ 9223372036854775807
  f1 : fpE (pairC v 1000) (pairR v 1000) 1000 = 0
  f2 : fpE (pairC v 1000000) (pairR v 1000000) 1000000 = 0
  x1 : fpW (pairC v 1000) (pairR v 1000) 1000 = v
  x2 : fpW (pairC v 1000000) (pairR v 1000000) 1000000 = v
  s1 : -9223372036854775808 ≤ sgN v
  s1' : sgN v ≤ 9223372036854775807
  se : sgE v = 0
  sf : fsE (sgN v) = 0
  sw : fsW (sgN v) = v

theorem taken (v : Int) (h0 : 0 ≤ v) (h : v ≤ 1048576 ∨ v = 18446744073709551615) : Taken v := by
  rcases h with h | rfl
  · have hc : ∀ s, s = 1000 ∨ s = 1000000 → pairC v s = v / 1000 ∧ pairR v s = v % 1000 * s ∧ pairE v s = 0 := by
      intro s hs
      rcases pair_cases v s h0 with g | g | g
      · omega
      · omega
      · exact ⟨g.1, g.2.1, g.2.2.1⟩
    obtain ⟨a1, a2, a3⟩ := hc 1000 (by omega)
    obtain ⟨b1, b2, b3⟩ := hc 1000000 (by omega)
    have q1 := fp_cases (v / 1000) (v % 1000 * 1000) 1000
    have q2 := fp_cases (v / 1000) (v % 1000 * 1000000) 1000000
    have sg := sg_cases v
    have e : sgN v = v ∧ sgE v = 0 := by omega
    have fs := fs_cases v
    constructor <;> (try rw [a1]) <;> (try rw [b1]) <;> (try rw [a2]) <;> (try rw [b2]) <;> (try rw [e.1]) <;> omega
  · have p1 := pair_cases 18446744073709551615 1000 h0
    have p2 := pair_cases 18446744073709551615 1000000 h0
    have a : pairC 18446744073709551615 1000 = -1 ∧ pairR 18446744073709551615 1000 = -1 ∧ pairE 18446744073709551615 1000 = 0 := by omega
    have b : pairC 18446744073709551615 1000000 = -1 ∧ pairR 18446744073709551615 1000000 = -1 ∧ pairE 18446744073709551615 1000000 = 0 := by omega
    have q1 := fp_cases (-1) (-1) 1000
    have q2 := fp_cases (-1) (-1) 1000000
    have sg := sg_cases 18446744073709551615
    have e : sgN 18446744073709551615 = -1 := by omega
    have fs := fs_cases (-1)
    constructor <;> (try rw [a.1]) <;> (try rw [b.1]) <;> (try rw [a.2.1]) <;> (try rw [b.2.1]) <;> (try rw [e]) <;> omega

set_option maxHeartbeats 2000000 in
set_option maxRecDepth 100000 in
theorem back_walk (now after x : Int) (w : World) (w0 : (Lit.int .u64 now).wf = true) (w1 : (Lit.int .u64 after).wf = true) (w2 : (Lit.int .u64 x).wf = true) :
    Calls Try.prog 6 #[.int .u64 now, .int .u64 after, .int .u64 x] w fun e w' => e = .returned (.bool true) ∧ Below w.heap.size w w' := by
  obtain ⟨h0, h1⟩ := bd_u64 w0
  obtain ⟨h2, h3⟩ := bd_u64 w1
  obtain ⟨x0, x1⟩ := bd_u64 w2
  clear w0 w1 w2
  obtain ⟨d0, d1⟩ := deadline_bd now after h0 h1 h2 h3
  have b1 := back1 now after h0 h1 h2 h3
  have B2 := Lib.hid (back2 now after h0 h1 h2 h3)
  generalize hd : deadline now after = d at *
  obtain ⟨l0, l1⟩ := left_bd now d h0 d1
  have B1 := Lib.hid b1
  have b1' : (deadline now (left now d) != d) = false := by rw [b1]; simp
  have hv : Taken (wait x false) ∧ wait x false ≤ x := by
    rcases wait_cases x x0 with h | h
    · exact ⟨taken _ (by omega) (by omega), by omega⟩
    · exact ⟨taken _ h.2.1 (.inl h.2.2), h.1⟩
  obtain ⟨hv, hx⟩ := hv
  generalize hw : wait x false = v at *
  obtain ⟨v0, v1, e1, e2, c1, c1', r1, r1', c2, c2', r2, r2', f1, f2, y1, y2, s1, s1', se, sf, sw⟩ := hv
  have HD := Lib.hid hd; have HW := Lib.hid hw
  clear hd hw b1
  have hn : ((d != 18446744073709551615) = false) ∨ ((d != 18446744073709551615) = true ∧ (left now d != after) = false) := by
    by_cases hn : d = 18446744073709551615
    · exact .inl (by simp [hn])
    · exact .inr ⟨by simp [hn], by rw [B2.out hn]; simp⟩
  clear B2
  rcases hn with hn | ⟨hn, hn2⟩
  all_goals
    go_enter Try.func6, Try.ntmps6
    go_wp2_with fail
    refine (alive_any _).mono ?_
    rintro e w' ⟨rfl, rfl⟩
    go_wp2_with fail
    refine (deadline_any now after _ h0 h1 h2 h3).mono ?_
    rintro e w' ⟨he, rfl⟩
    rw [HD.out] at he
    subst he
    go_wp2_with (first
      | (go_at_call 11; refine (left_any _ _ _ h0 h1 (by omega) (by omega)).mono ?_; rintro e w' ⟨rfl, rfl⟩)
      | (go_at_call 9; refine (deadline_any _ _ _ h0 h1 l0 l1).mono ?_; rintro e w' ⟨rfl, rfl⟩)
      | (go_at_call 15; refine (wait_any _ _ _ x0 x1).mono ?_; rintro e w' ⟨he, rfl⟩; rw [HW.out] at he; subst he)
      | (go_at_call 17; refine (pair_any _ _ _ v0 v1).mono ?_; rintro e w' ⟨rfl, rfl⟩)
      | (go_at_call 19; refine (fromPair_any _ _ _ _ (by assumption) (by assumption) (by assumption) (by assumption)).mono ?_; rintro e w' ⟨rfl, rfl⟩)
      | (go_at_call 21; refine (single_any _ _ v0 v1).mono ?_; rintro e w' ⟨rfl, rfl⟩)
      | (go_at_call 23; refine (fromSingle_any _ _ s1 s1').mono ?_; rintro e w' ⟨rfl, rfl⟩))
    go_ret
    exact ⟨rfl, Below.refl _ _⟩
end Go.Proofs.Ytfjjmmaddcofkaa
