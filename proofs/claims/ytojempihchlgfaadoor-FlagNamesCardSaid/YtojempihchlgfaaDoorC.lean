/- flag: Ready beside the document's; FlagAsks. -/
import Derived.Test.YtojempihchlgfaaDoorB
namespace Go.Proofs.YtojempihchlgfaaDoor
open Go.RowKit
set_option linter.unusedSimpArgs false
set_option linter.unusedVariables false

theorem rmay_out (m : Int) (w : World) (h : m < 0 ∨ 64 ≤ m) :
    Calls Tryd.prog 11 #[.int .i64 m] w fun e w' => e = .returned (.bool false) ∧ w = w' := by
  rcases (show m < 0 ∨ (0 ≤ m ∧ 64 ≤ m) by omega) with h | ⟨h', h⟩
  · go_enter Tryd.func11, Tryd.ntmps11
    go_wp2_with fail
    go_ret
    exact ⟨rfl, rfl⟩
  · go_enter Tryd.func11, Tryd.ntmps11
    go_wp2_with fail
    go_ret
    exact ⟨rfl, rfl⟩

theorem ready_f (m i : Int) (w : World) (h0 : 0 ≤ m) (h1 : m < 64) (i0 : 0 ≤ i) (i1 : i < 64) :
    Calls Tryd.prog 12 #[.int .i64 m, .int .i64 i] w fun e w' => e = .returned (.int .i64 (fReady m i)) ∧ w = w' := by
  generalize hg : fReady m i = g
  unfold fReady at hg
  cases k : (bits .and .i64 (bits .and .i64 m i) 14 != 0) <;> rw [k] at hg
  all_goals
    simp only [if_true, if_false, Bool.false_eq_true] at hg
    have HG := Lib.hid hg; clear hg
    go_enter Tryd.func12, Tryd.ntmps12
    go_wp2
    go_ret
    exact ⟨by rw [← HG.out]; rfl, rfl⟩

theorem sB_bd (w i b : Int) (hb : 0 ≤ b) : 0 ≤ sB w i b ∧ sB w i b ≤ b := by unfold sB; split <;> omega
theorem sB_tt {w i b : Int} (h : (w / b % 2 == 1) = true) (k : (i / b % 2 == 1) = true) : sB w i b = b := by unfold sB; rw [h, k]; rfl
theorem sB_f {w i b : Int} (h : (w / b % 2 == 1) = false) : sB w i b = 0 := by unfold sB; rw [h]; rfl
theorem sB_tf {w i b : Int} (h : (w / b % 2 == 1) = true) (k : (i / b % 2 == 1) = false) : sB w i b = 0 := by unfold sB; rw [h, k]; rfl

set_option maxHeartbeats 2000000 in
theorem rready_in (m i : Int) (w : World) (h0 : 0 ≤ m) (h1 : m < 64) (i0 : 0 ≤ i) (i1 : i < 64) :
    Calls Tryd.prog 13 #[.int .i64 m, .int .i64 i] w fun e w' => e = .returned (.int .i64 (rReady m i)) ∧ w = w' := by
  generalize hg : rReady m i = g
  unfold rReady at hg
  have HG := Lib.hid hg; clear hg
  obtain ⟨p2, q2⟩ := sB_bd m i 2 (by omega)
  obtain ⟨p4, q4⟩ := sB_bd m i 4 (by omega)
  obtain ⟨p8, q8⟩ := sB_bd m i 8 (by omega)
  go_enter Tryd.func13, Tryd.ntmps13
  go_wp2
  go_loop [5, 6] (fun o b => (b = .int .i64 2 ∧ o = .int .i64 0) ∨ (b = .int .i64 4 ∧ o = .int .i64 (sB m i 2)) ∨ (b = .int .i64 8 ∧ o = .int .i64 (sB m i 2 + sB m i 4)) ∨ (b = .int .i64 16 ∧ o = .int .i64 (sB m i 2 + sB m i 4 + sB m i 8))) (fun _ b => 16 - (intOf b).toNat)
  case atStart => exact .inl ⟨rfl, rfl⟩
  case round =>
    rcases hrel with ⟨rfl, rfl⟩ | ⟨rfl, rfl⟩ | ⟨rfl, rfl⟩ | ⟨rfl, rfl⟩
    · cases k : (m / 2 % 2 == 1) <;> cases j : (i / 2 % 2 == 1)
      all_goals
        have K := Lib.hid k; have J := Lib.hid j; clear k j
        go_wp2_with (first
          | (go_at_call 33; have _z := done1; clear _z; refine (bit_any i _ _ i0 (by omega) (by omega) (by omega)).mono ?_; rintro e w' ⟨he, rfl⟩; rw [J.out] at he; subst he)
          | (go_at_call 33; refine (bit_any m _ _ h0 (by omega) (by omega) (by omega)).mono ?_; rintro e w' ⟨he, rfl⟩; rw [K.out] at he; subst he; have done1 := True.intro))
        go_round
        case rel => first
          | exact .inr (.inl ⟨rfl, by rw [sB_tt K.out J.out] <;> rfl⟩)
          | exact .inr (.inl ⟨rfl, by rw [sB_f K.out, Int.add_zero]⟩)
          | exact .inr (.inl ⟨rfl, by rw [sB_f K.out]⟩)
          | exact .inr (.inl ⟨rfl, by rw [sB_tf K.out J.out, Int.add_zero]⟩)
          | exact .inr (.inl ⟨rfl, by rw [sB_tf K.out J.out]⟩)
        case measure => simp [intOf]
    · cases k : (m / 4 % 2 == 1) <;> cases j : (i / 4 % 2 == 1)
      all_goals
        have K := Lib.hid k; have J := Lib.hid j; clear k j
        go_wp2_with (first
          | (go_at_call 33; have _z := done1; clear _z; refine (bit_any i _ _ i0 (by omega) (by omega) (by omega)).mono ?_; rintro e w' ⟨he, rfl⟩; rw [J.out] at he; subst he)
          | (go_at_call 33; refine (bit_any m _ _ h0 (by omega) (by omega) (by omega)).mono ?_; rintro e w' ⟨he, rfl⟩; rw [K.out] at he; subst he; have done1 := True.intro))
        go_round
        case rel => first
          | exact .inr (.inr (.inl ⟨rfl, by rw [sB_tt K.out J.out] <;> rfl⟩))
          | exact .inr (.inr (.inl ⟨rfl, by rw [sB_f K.out, Int.add_zero]⟩))
          | exact .inr (.inr (.inl ⟨rfl, by rw [sB_f K.out]⟩))
          | exact .inr (.inr (.inl ⟨rfl, by rw [sB_tf K.out J.out, Int.add_zero]⟩))
          | exact .inr (.inr (.inl ⟨rfl, by rw [sB_tf K.out J.out]⟩))
        case measure => simp [intOf]
    · cases k : (m / 8 % 2 == 1) <;> cases j : (i / 8 % 2 == 1)
      all_goals
        have K := Lib.hid k; have J := Lib.hid j; clear k j
        go_wp2_with (first
          | (go_at_call 33; have _z := done1; clear _z; refine (bit_any i _ _ i0 (by omega) (by omega) (by omega)).mono ?_; rintro e w' ⟨he, rfl⟩; rw [J.out] at he; subst he)
          | (go_at_call 33; refine (bit_any m _ _ h0 (by omega) (by omega) (by omega)).mono ?_; rintro e w' ⟨he, rfl⟩; rw [K.out] at he; subst he; have done1 := True.intro))
        go_round
        case rel => first
          | exact .inr (.inr (.inr ⟨rfl, by rw [sB_tt K.out J.out] <;> rfl⟩))
          | exact .inr (.inr (.inr ⟨rfl, by rw [sB_f K.out, Int.add_zero]⟩))
          | exact .inr (.inr (.inr ⟨rfl, by rw [sB_f K.out]⟩))
          | exact .inr (.inr (.inr ⟨rfl, by rw [sB_tf K.out J.out, Int.add_zero]⟩))
          | exact .inr (.inr (.inr ⟨rfl, by rw [sB_tf K.out J.out]⟩))
        case measure => simp [intOf]
    · have hs : 0 ≤ sB m i 2 + sB m i 4 + sB m i 8 ∧ sB m i 2 + sB m i 4 + sB m i 8 ≤ 14 := by omega
      generalize sB m i 2 + sB m i 4 + sB m i 8 = s at *
      obtain ⟨s0, s1⟩ := hs
      clear p2 q2 p4 q4 p8 q8
      cases k : (m / 32 % 2 == 1) <;> cases j : (i / 1 % 2 == 1) <;> cases z : decide (s > 0)
      all_goals
        have hg := HG.out
        rw [k, j, z] at hg
        simp only [if_true, if_false, Bool.false_eq_true, Bool.and_true, Bool.and_false, Bool.true_and, Bool.false_and, Int.add_zero] at hg
        have HG2 := Lib.hid hg; clear hg HG
        have K := Lib.hid k; have J := Lib.hid j; clear k j
        simp only [decide_eq_true_eq, decide_eq_false_iff_not] at z
        go_wp2_with (first
          | (go_at_call 33; have _z := done1; clear _z; refine (bit_any i _ _ i0 (by omega) (by omega) (by omega)).mono ?_; rintro e w' ⟨he, rfl⟩; rw [J.out] at he; subst he)
          | (go_at_call 33; refine (bit_any _ _ _ (by omega) (by omega) (by omega) (by omega)).mono ?_; rintro e w' ⟨he, rfl⟩; (first | rw [K.out] at he | rw [J.out] at he); subst he; have done1 := True.intro))
        go_ret
        exact ⟨by rw [← HG2.out]; rfl, rfl⟩
end Go.Proofs.YtojempihchlgfaaDoor
