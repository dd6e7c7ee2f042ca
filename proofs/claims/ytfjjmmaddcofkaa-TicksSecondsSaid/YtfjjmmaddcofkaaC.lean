/- The law of the numbers; the chapter's first examples; the laws of the order and of the way back. -/
import Derived.Test.YtfjjmmaddcofkaaB
namespace Go.Proofs.Ytfjjmmaddcofkaa
open Go.RowKit
set_option linter.unusedSimpArgs false
set_option linter.unusedVariables false

set_option maxHeartbeats 1000000 in
theorem numbers_walk (x c r s n : Int) (w : World) (w0 : (Lit.int .u64 x).wf = true) (w1 : (Lit.int .i64 c).wf = true) (w2 : (Lit.int .i64 r).wf = true) (w3 : (Lit.int .i64 s).wf = true) (w4 : (Lit.int .i64 n).wf = true) :
    Calls Try.prog 4 #[.int .u64 x, .int .i64 c, .int .i64 r, .int .i64 s, .int .i64 n] w fun e w' => e = .returned (.bool true) ∧ Below w.heap.size w w' := by
  obtain ⟨x0, x1⟩ := bd_u64 w0
  obtain ⟨c0, c1⟩ := bd_i64 w1
  obtain ⟨r0, r1⟩ := bd_i64 w2
  obtain ⟨n0, n1⟩ := bd_i64 w4
  clear w0 w1 w2 w3 w4
  have hp : -9223372036854775808 ≤ pairE x s ∧ pairE x s ≤ 9223372036854775807 := by rcases pair_cases x s x0 with h | h | h <;> omega
  have hf : -9223372036854775808 ≤ fpE c r s ∧ fpE c r s ≤ 9223372036854775807 := by rcases fp_cases c r s with h | h | h | h <;> omega
  have hs : -9223372036854775808 ≤ sgE x ∧ sgE x ≤ 9223372036854775807 := by rcases sg_cases x with h | h | h <;> omega
  have hn : -9223372036854775808 ≤ fsE n ∧ fsE n ≤ 9223372036854775807 := by rcases fs_cases n with h | h | h <;> omega
  obtain ⟨p1, p2⟩ := hp; obtain ⟨f1, f2⟩ := hf; obtain ⟨s1, s2⟩ := hs; obtain ⟨n1', n2'⟩ := hn
  go_enter Try.func4, Try.ntmps4
  go_wp2_with (first
    | (go_at_call 17; refine (pair_any _ _ _ x0 x1).mono ?_; rintro e w' ⟨rfl, rfl⟩)
    | (go_at_call 18; refine (pair_ref _ _ _ x0 x1).mono ?_; rintro e w' ⟨rfl, rfl⟩)
    | (go_at_call 19; refine (fromPair_any _ _ _ _ c0 c1 r0 r1).mono ?_; rintro e w' ⟨rfl, rfl⟩)
    | (go_at_call 20; refine (fromPair_ref _ _ _ _ c0 c1 r0 r1).mono ?_; rintro e w' ⟨rfl, rfl⟩)
    | (go_at_call 21; refine (single_any _ _ x0 x1).mono ?_; rintro e w' ⟨rfl, rfl⟩)
    | (go_at_call 22; refine (single_ref _ _ x0 x1).mono ?_; rintro e w' ⟨rfl, rfl⟩)
    | (go_at_call 23; refine (fromSingle_any _ _ n0 n1).mono ?_; rintro e w' ⟨rfl, rfl⟩)
    | (go_at_call 24; refine (fromSingle_ref _ _ n0 n1).mono ?_; rintro e w' ⟨rfl, rfl⟩))
  go_ret
  exact ⟨rfl, Below.refl _ _⟩

set_option maxHeartbeats 1000000 in
theorem alive_any (w : World) : Calls Try.prog 25 #[] w fun e w' => e = .returned (.bool true) ∧ w = w' := by
  go_enter Try.func25, Try.ntmps25
  go_wp2
  go_ret
  exact ⟨rfl, rfl⟩
end Go.Proofs.Ytfjjmmaddcofkaa
