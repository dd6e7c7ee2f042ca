/- OfSignal, Check. -/
import Derived.Test.YtllolfbjmpaamaaD
namespace Go.Proofs.Ytllolfbjmpaamaa
open Go.RowKit
set_option linter.unusedSimpArgs false
set_option linter.unusedVariables false
set_option maxRecDepth 100000

/-- The slice of a signal. -/
theorem Qb.scell {w : World} {g mb N : Nat} {D : DataW Unit} {vs : List Value} {L : List It} (h : Qb w g mb N D vs L) (s : Nat) (hs : s < 32) :
    ∃ v, vs[96 + s]? = some v ∧ w.cell? ⟨g, 97 + s, none⟩ = some v ∧ w.frozen? ⟨g, 97 + s, none⟩ = false ∧ w.ownsRow 0 3 1 v (row L ((s : Int) + 96)).length (flat (row L ((s : Int) + 96))) := by
  obtain ⟨v, h1, h2, h3, h4⟩ := h.cell (96 + s) (by omega)
  rw [show 1 + (96 + s) = 97 + s by omega] at h2 h3
  rw [show ((96 + s : Nat) : Int) = (s : Int) + 96 by omega] at h4
  exact ⟨v, h1, h2, h3, h4⟩
set_option maxHeartbeats 2000000 in
theorem OfSignal_any (w : World) (g : Nat) (S : Nat → Prop) (N : Nat) (L : List It) (sg : Int) (h : Qw w g S N L) (hN : N ≤ 10000) :
    Calls Try.prog 31 #[.pointer (some ⟨g, 0, none⟩), .int .i64 sg] w fun e w' => (∃ v', e = .returned v' ∧ w'.ownsRow w.heap.size 3 1 v' (sigL L sg).length (flat (sigL L sg))) ∧ Below w.heap.size w w' := by
  have NO := Lib.hid (none_any w g S N L h)
  have hln := h.ln
  unfold sigL
  by_cases hsg : 1 ≤ sg ∧ sg ≤ 31
  · rw [if_pos hsg]
    obtain ⟨k, rfl⟩ := Int.eq_ofNat_of_zero_le (show 0 ≤ sg by omega)
    obtain ⟨mb, D, vs, h, hS⟩ := h
    obtain ⟨v, hv, hc, -, hrow⟩ := h.scell k (by omega)
    have hrl := row_len L ((k : Int) + 96)
    have HCL := Lib.hid (Clone_any v (row L ((k : Int) + 96)) w hrow (by omega))
    obtain ⟨A, c, rfl, -⟩ := row_form hrow
    clear h hS hv hrow
    have hk1 : (1 : Int) ≤ (k : Int) := hsg.1
    have hk31 : (k : Int) ≤ 31 := hsg.2
    have hk32 : (k : Int) < 32 := by omega
    clear hsg
    generalize hR : row L ((k : Int) + 96) = R at *
    generalize hll : R.length = ln at *
    have HLL := Lib.hid hll
    clear hll hR
    go_enter Try.func31, Try.ntmps31
    go_wp2_with (go_at_call 33; refine NO.out.mono ?_; rintro e w1 ⟨rfl, rfl⟩)
    refine HCL.out.mono ?_
    rintro e w1 ⟨⟨v1, rfl, r1⟩, b1⟩
    obtain ⟨A1, c1, rfl, -⟩ := row_form r1
    have R1 := Lib.hid r1
    clear r1
    go_wp2_with fail
    go_ret
    exact ⟨⟨_, rfl, R1.out⟩, b1⟩
  · rw [if_neg hsg]
    clear h
    by_cases h1 : sg < 1
    case' neg =>
      have h1 : 1 ≤ sg := by omega
      have h2 : 31 < sg := by omega
    all_goals
      clear hsg
      go_enter Try.func31, Try.ntmps31
      go_wp2_with (go_at_call 33; refine NO.out.mono ?_; rintro e w1 ⟨rfl, rfl⟩)
      go_ret
      exact ⟨⟨_, rfl, World.ownsRow_nil _ _ _ _⟩, Below.refl _ _⟩

set_option maxHeartbeats 4000000 in
theorem Check_any (w : World) (g : Nat) (S : Nat → Prop) (N : Nat) (L : List It) (ev fd wn : Int) (h : Qw w g S N L) (hN : N ≤ 10000) (hev : (Lit.int .i64 ev).wf = true) (hwn : (Lit.int .i64 wn).wf = true) :
    Calls Try.prog 30 #[.pointer (some ⟨g, 0, none⟩), .int .i64 ev, .int .i64 fd, .int .i64 wn] w fun e w' => e = .returned (.int .i64 (chk L ev fd wn)) ∧ Below w.heap.size w w' := by
  have NO := Lib.hid (none_any w g S N L h)
  unfold chk
  by_cases hfd : 0 ≤ fd ∧ fd ≤ 95
  case neg =>
    rw [if_pos (.inl hfd)]
    have IN := Lib.hid (in_any fd w false (by simpa using hfd))
    clear h hfd
    go_enter Try.func30, Try.ntmps30
    go_wp2_with (first | (go_at_call 33; refine NO.out.mono ?_; rintro e w1 ⟨rfl, rfl⟩) | (go_at_call 34; refine IN.out.mono ?_; rintro e w1 ⟨rfl, rfl⟩))
    go_ret
    exact ⟨rfl, Below.refl _ _⟩
  case pos =>
  have IN := Lib.hid (in_any fd w true (by simpa using hfd))
  by_cases hmw : MayW wn
  case neg =>
    rw [if_pos (.inr hmw)]
    by_cases h0 : wn = 0
    · subst h0
      clear h hfd hmw hwn
      go_enter Try.func30, Try.ntmps30
      go_wp2_with (first | (go_at_call 33; refine NO.out.mono ?_; rintro e w1 ⟨rfl, rfl⟩) | (go_at_call 34; refine IN.out.mono ?_; rintro e w1 ⟨rfl, rfl⟩))
      go_ret
      exact ⟨rfl, Below.refl _ _⟩
    · have MA := Lib.hid (may_any wn w hwn false (decide_eq_false (fun h => h.elim h0 hmw)))
      have h0' : (wn == 0) = false := by simpa using h0
      clear h hfd hmw hwn
      go_enter Try.func30, Try.ntmps30
      go_wp2_with (first | (go_at_call 33; refine NO.out.mono ?_; rintro e w1 ⟨rfl, rfl⟩) | (go_at_call 34; refine IN.out.mono ?_; rintro e w1 ⟨rfl, rfl⟩) | (go_at_call 42; refine MA.out.mono ?_; rintro e w1 ⟨rfl, rfl⟩))
      go_ret
      exact ⟨rfl, Below.refl _ _⟩
  case pos =>
  rw [if_neg (fun h => h.elim (fun h => h hfd) (fun h => h hmw))]
  have MA := Lib.hid (may_any wn w hwn true (decide_eq_true (.inr hmw)))
  have h0' : (wn == 0) = false := by unfold MayW at hmw; simp; omega
  have HA := Lib.hid (Has_any w g S N L ev h hev)
  by_cases hlk : (look L ev).isSome = true
  · rw [if_pos hlk]
    rw [hlk] at HA
    clear h hfd hmw hwn hlk
    go_enter Try.func30, Try.ntmps30
    go_wp2_with (first | (go_at_call 33; refine NO.out.mono ?_; rintro e w1 ⟨rfl, rfl⟩) | (go_at_call 34; refine IN.out.mono ?_; rintro e w1 ⟨rfl, rfl⟩) | (go_at_call 42; refine MA.out.mono ?_; rintro e w1 ⟨rfl, rfl⟩))
    refine HA.out.mono ?_
    rintro e w1 ⟨rfl, b1⟩
    go_wp2_with fail
    go_ret
    exact ⟨rfl, b1⟩
  · rw [if_neg hlk]
    rw [Bool.not_eq_true] at hlk
    rw [hlk] at HA
    have HW := Lib.hid (fun (W : World) (hB : Below w.heap.size w W) => Wants_any W g S N L fd (h.below hB) hN)
    have hwe : wants L fd = wntL (row L fd) := by unfold wants ofL; rw [if_pos hfd]
    rw [hwe] at HW
    obtain ⟨k, rfl⟩ := Int.eq_ofNat_of_zero_le hfd.1
    have hgl := h.lt h.own
    obtain ⟨mb, D, vs, h, hS⟩ := h
    obtain ⟨v, hv, hc, -, hrow⟩ := h.cell k (by omega)
    obtain ⟨A, c, rfl, -⟩ := row_form hrow
    have HC : Hid (∀ W : World, Below w.heap.size w W → W.cell? ⟨g, 1 + k, none⟩ = some (.slice A (row L (k : Nat)).length c)) := Lib.hid (fun W hB => (hB.cell (p := ⟨g, 1 + k, none⟩) hgl).trans hc)
    have hk96 : (k : Int) < 96 := by omega
    clear h hS hv hrow hwe hlk hwn hmw hfd hc
    generalize (row L (k : Nat)).length = ln at *
    generalize wntL (row L (k : Nat)) = ws at *
    by_cases hl0 : 0 < ln
    case neg =>
      obtain rfl : ln = 0 := by omega
      rw [if_neg (fun h => absurd h.1 (Nat.lt_irrefl _))]
      clear hl0
      go_enter Try.func30, Try.ntmps30
      go_wp2_with (first | (go_at_call 33; refine NO.out.mono ?_; rintro e w1 ⟨rfl, rfl⟩) | (go_at_call 34; refine IN.out.mono ?_; rintro e w1 ⟨rfl, rfl⟩) | (go_at_call 42; refine MA.out.mono ?_; rintro e w1 ⟨rfl, rfl⟩))
      refine HA.out.mono ?_
      rintro e w1 ⟨rfl, b1⟩
      have hc := HC.out w1 b1
      go_wp2_with fail
      go_ret
      exact ⟨rfl, b1⟩
    case pos =>
    have hl0' : (0 : Int) < (ln : Int) := by omega
    by_cases he : bits .and .i64 (bits .xor .i64 ws wn) 32 = 0
    · rw [if_neg (fun h => h.2 he)]
      clear hl0
      go_enter Try.func30, Try.ntmps30
      go_wp2_with (first | (go_at_call 33; refine NO.out.mono ?_; rintro e w1 ⟨rfl, rfl⟩) | (go_at_call 34; refine IN.out.mono ?_; rintro e w1 ⟨rfl, rfl⟩) | (go_at_call 42; refine MA.out.mono ?_; rintro e w1 ⟨rfl, rfl⟩))
      refine HA.out.mono ?_
      rintro e w1 ⟨rfl, b1⟩
      have hc := HC.out w1 b1
      go_wp2_with (go_at_call 13; refine (HW.out _ b1).mono ?_; rintro e w2 ⟨rfl, rfl⟩)
      go_ret
      exact ⟨rfl, b1⟩
    · rw [if_pos ⟨hl0, he⟩]
      have he' : (bits .and .i64 (bits .xor .i64 ws wn) 32 != 0) = true := by simpa using he
      clear hl0 he
      go_enter Try.func30, Try.ntmps30
      go_wp2_with (first | (go_at_call 33; refine NO.out.mono ?_; rintro e w1 ⟨rfl, rfl⟩) | (go_at_call 34; refine IN.out.mono ?_; rintro e w1 ⟨rfl, rfl⟩) | (go_at_call 42; refine MA.out.mono ?_; rintro e w1 ⟨rfl, rfl⟩))
      refine HA.out.mono ?_
      rintro e w1 ⟨rfl, b1⟩
      have hc := HC.out w1 b1
      go_wp2_with (go_at_call 13; refine (HW.out _ b1).mono ?_; rintro e w2 ⟨rfl, rfl⟩)
      go_ret
      exact ⟨rfl, b1⟩
end Go.Proofs.Ytllolfbjmpaamaa
