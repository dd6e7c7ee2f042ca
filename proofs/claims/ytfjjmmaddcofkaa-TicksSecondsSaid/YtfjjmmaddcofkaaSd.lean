/- TicksSeconds. -/
import Derived.Test.YtfjjmmaddcofkaaSc
namespace Go.Proofs.Ytfjjmmaddcofkaa
open Go.RowKit
set_option linter.unusedSimpArgs false
set_option linter.unusedVariables false

set_option maxHeartbeats 1000000 in
theorem seconds_top (n : Int) (s m : Nat) (w : World) (w0 : (Lit.int .u64 n).wf = true) (w1 : (Lit.float .f64 s).wf = true) (w2 : (Lit.float .f64 m).wf = true) :
    Calls Try.prog 8 #[.int .u64 n, .float .f64 s, .float .f64 m] w fun e w' => e = .returned (.bool true) ∧ Below w.heap.size w w' := by
  obtain ⟨n0, n1⟩ := bd_u64 w0
  have s1 : s < 2 ^ 64 := by simpa [Lit.wf] using w1
  have m1 : m < 2 ^ 64 := by simpa [Lit.wf] using w2
  obtain ⟨T, E, Ok, os, om, hA, hR, hT, hE, HF⟩ : ∃ (T E : Nat → Int) (Ok : Nat → Prop), Ok s ∧ Ok m ∧
      (∀ b w', Ok b → Below w.heap.size w w' → Calls Try.prog 28 #[.float .f64 b] w' fun e w'' => e = .returned (.tuple #[.int .u64 (T b), .int .i64 (E b)]) ∧ Below w.heap.size w w'') ∧
      (∀ b w', Ok b → Calls Try.prog 29 #[.float .f64 b] w' fun e w'' => e = .returned (.tuple #[.int .u64 (T b), .int .i64 (E b)]) ∧ w' = w'') ∧
      (∀ b, 0 ≤ T b ∧ T b ≤ 18446744073709551615) ∧ (∀ b, E b = 0 ∨ E b = 2) ∧
      Hid (E s = 0 → E m = 0 → (FloatKind.f64.format.order s m == some .lt || FloatKind.f64.format.order s m == some .eq) = true → T s ≤ T m) := by
    refine ⟨tW, tE, fun b => b < 2 ^ 64, s1, m1, ?_, fun b w' h => fromSeconds_ref b w' h, tW_bd, tE_cases, Lib.hid fun h1 h2 h3 => no_fewer s1 m1 h1 h2 h3⟩
    intro b w' h hb
    refine (fromSeconds_any b w' h).mono ?_
    rintro e w'' ⟨h1, h2⟩
    exact ⟨h1, hb.trans (h2.mono hb.size)⟩
  clear w1 w2 s1 m1 w0
  obtain ⟨a0, a1⟩ := hT s
  obtain ⟨b0, b1⟩ := hT m
  have ha := hE s
  have hb := hE m
  clear hT hE
  have hself := secW_self n n0
  have hS := fun w => seconds_any n w n0 n1
  have hS2 := fun w => seconds_ref n w n0 n1
  generalize secW n = z at *
  have hz : Below w.heap.size w w := Below.refl _ _
  cases hl : (FloatKind.f64.format.order s m == some .lt || FloatKind.f64.format.order s m == some .eq)
  all_goals
    rcases ha with ha | ha <;> rcases hb with hb | hb
    all_goals
      (try have hle := HF.out ha hb hl)
      go_enter Try.func8, Try.ntmps8
      go_wp2_with (first
        | (go_at_call 25; refine (alive_any _).mono ?_; rintro e w' ⟨rfl, rfl⟩)
        | (go_at_call 26; refine (hS _).mono ?_; rintro e w' ⟨rfl, rfl⟩)
        | (go_at_call 27; refine (hS2 _).mono ?_; rintro e w' ⟨rfl, rfl⟩)
        | (go_at_call 28; refine (hA _ _ (by with_reducible assumption) (by with_reducible assumption)).mono ?_; rintro e w' ⟨rfl, h1⟩)
        | (go_at_call 29; refine (hR _ _ (by with_reducible assumption)).mono ?_; rintro e w' ⟨rfl, rfl⟩)
        | simp only [hself] | simp only [hl] | simp only [ha] | simp only [hb])
      all_goals (go_ret; exact ⟨rfl, h1⟩)
end Go.Proofs.Ytfjjmmaddcofkaa
