/- The walk of FlagBack. -/
import Derived.Test.YtojempihchlgfaaDoorLa
namespace Go.Proofs.YtojempihchlgfaaDoor
open Go.RowKit
set_option linter.unusedSimpArgs false
set_option linter.unusedVariables false
set_option maxRecDepth 100000

theorem tx_size (T : Nat) (hT : T < 2) (m : Int) : (⟨(txL T m).toArray⟩ : ByteArray).size ≤ 54 := by
  show (txL T m).toArray.size ≤ 54
  rw [List.size_toArray]
  unfold txL
  split
  · simp
  · split
    · simp
    · exact wds_join T hT _ (wb_len _ _)
/-- The words of a mask say the mask. -/
theorem tx_back (T : Nat) (hT : T < 2) (m : Int) : txE T m = 50 ∨ (txE T m = 0 ∧ paE T ⟨(txL T m).toArray⟩ = 0 ∧ paR T ⟨(txL T m).toArray⟩ = m) := by
  by_cases h : m < 0 ∨ 2 ^ nT T ≤ m
  · exact .inl (if_pos h)
  · refine .inr ⟨if_neg h, ?_⟩
    obtain ⟨k, rfl⟩ := Int.eq_ofNat_of_zero_le (show 0 ≤ m by omega)
    have hk : k < 2 ^ nT T := by have := pow_nat T; omega
    rcases pa_cases T hT ⟨(txL T (k : Int)).toArray⟩ with ⟨j, _, _, h1, h2, hu⟩ | ⟨hn, _, _⟩
    · obtain rfl := hu k hk rfl
      exact ⟨h2, h1⟩
    · exact absurd rfl (hn k hk)
/-- What words say has just these words. -/
theorem pa_back (s : ByteArray) : paE 0 s = 50 ∨ (paE 0 s = 0 ∧ txE 0 (paR 0 s) = 0 ∧ (⟨(txL 0 (paR 0 s)).toArray⟩ : ByteArray) = s) := by
  rcases pa_cases 0 (by decide) s with ⟨k, hk, h1, h2, h3, _⟩ | ⟨_, _, h⟩
  · refine .inr ⟨h3, ?_, ?_⟩
    · rw [h2]
      unfold txE
      have := pow_nat 0
      rw [if_neg (by omega)]
    · rw [h2, h1]
  · exact .inl h

set_option maxHeartbeats 8000000 in
theorem back_walk (m : Int) (s : ByteArray) (w : World) (hw : Env w) (hs : s.size ≤ 1000) : Calls Tryd.prog 7 #[.int .i64 m, .string s] w fun e w' => e = .returned (.bool true) ∧ Below w.heap.size w w' := by
  have hA : ∀ w, Env w → Calls Tryd.prog 22 #[] w (fun e w' => e = .returned (.bool true) ∧ Below w.heap.size w w') := fun w h => alive_any w h.1
  have hT : ∀ w, Env w → Calls Tryd.prog 23 #[.int .i64 m] w (RT 0 m w) := fun w h => Text_any m w h.1
  have hF : ∀ w, Env w → Calls Tryd.prog 25 #[.int .i64 m] w (RT 1 m w) := fun w h => FeatText_any m w h.1
  have z0 := tx_size 0 (by decide) m
  have z1 := tx_size 1 (by decide) m
  have hP : ∀ w, Env w → Calls Tryd.prog 27 #[.string ⟨(txL 0 m).toArray⟩] w (RP 0 ⟨(txL 0 m).toArray⟩ w) := fun w h => Parse_any _ w h.1 h.2 (by omega)
  have hG : ∀ w, Env w → Calls Tryd.prog 29 #[.string ⟨(txL 1 m).toArray⟩] w (RP 1 ⟨(txL 1 m).toArray⟩ w) := fun w h => FeatParse_any _ w h.1 h.2 (by omega)
  have hPs : ∀ w, Env w → Calls Tryd.prog 27 #[.string s] w (RP 0 s w) := fun w h => Parse_any s w h.1 h.2 (by omega)
  have hTs : ∀ w, Env w → Calls Tryd.prog 23 #[.int .i64 (paR 0 s)] w (RT 0 (paR 0 s) w) := fun w h => Text_any _ w h.1
  have k0 := tx_back 0 (by decide) m
  have k1 := tx_back 1 (by decide) m
  have k2 := pa_back s
  unfold RT at hT hF hTs
  unfold RP at hP hG hPs
  clear z0 z1
  generalize (⟨(txL 0 m).toArray⟩ : ByteArray) = t0 at *
  generalize (⟨(txL 1 m).toArray⟩ : ByteArray) = t1 at *
  generalize txE 0 m = e0 at *
  generalize txE 1 m = e1 at *
  generalize paR 0 t0 = p0 at *
  generalize paR 1 t1 = p1 at *
  generalize paE 0 t0 = f0 at *
  generalize paE 1 t1 = f1 at *
  generalize paR 0 s = x at *
  generalize paE 0 s = fi at *
  generalize (⟨(txL 0 x).toArray⟩ : ByteArray) = v at *
  generalize txE 0 x = ej at *
  have HA := Lib.hid hA; have HT := Lib.hid hT; have HF := Lib.hid hF; have HP := Lib.hid hP; have HG := Lib.hid hG; have HS := Lib.hid hPs; have HV := Lib.hid hTs
  have HW := Lib.hid hw
  clear hA hT hF hP hG hPs hTs hw
  rcases k0 with rfl | ⟨rfl, rfl, rfl⟩ <;> rcases k1 with rfl | ⟨rfl, rfl, hp1⟩ <;> rcases k2 with rfl | ⟨rfl, rfl, rfl⟩
  all_goals (try subst hp1)
  all_goals
    go_enter Tryd.func7, Tryd.ntmps7
    go_wp2_with fail
    refine (HA.out w HW.out).mono ?_
    rintro e w0 ⟨rfl, b0⟩
    have HW0 := Lib.hid (HW.out.later b0)
    go_wp2_with fail
    refine (HT.out w0 HW0.out).mono ?_
    rintro e w1 ⟨rfl, b1⟩
    have HW1 := Lib.hid (HW0.out.later b1)
    go_wp2_with fail
    refine (HP.out w1 HW1.out).mono ?_
    rintro e w2 ⟨rfl, b2⟩
    have HW2 := Lib.hid (HW1.out.later b2)
    go_wp2_with fail
    refine (HF.out w2 HW2.out).mono ?_
    rintro e w3 ⟨rfl, b3⟩
    have HW3 := Lib.hid (HW2.out.later b3)
    go_wp2_with fail
    refine (HG.out w3 HW3.out).mono ?_
    rintro e w4 ⟨rfl, b4⟩
    have HW4 := Lib.hid (HW3.out.later b4)
    go_wp2_with fail
    refine (HS.out w4 HW4.out).mono ?_
    rintro e w5 ⟨rfl, b5⟩
    have HW5 := Lib.hid (HW4.out.later b5)
    go_wp2_with fail
    refine (HV.out w5 HW5.out).mono ?_
    rintro e w6 ⟨rfl, b6⟩
    go_wp2_with fail
    go_ret
    have B1 := b0.trans (b1.mono b0.size)
    have B2 := B1.trans (b2.mono B1.size)
    have B3 := B2.trans (b3.mono B2.size)
    have B4 := B3.trans (b4.mono B3.size)
    have B5 := B4.trans (b5.mono B4.size)
    exact ⟨by first | rfl | simp, B5.trans (b6.mono B5.size)⟩
theorem back_long (m : Int) (s : ByteArray) (w : World) (hw : Env w) (hs : 1000 < s.size) (hm : s.size ≤ maxLen) : Calls Tryd.prog 7 #[.int .i64 m, .string s] w fun e w' => e = .returned (.bool true) ∧ Below w.heap.size w w' := by
  unfold maxLen at hm
  have HA := Lib.hid (alive_any w hw.1)
  clear hw
  go_enter Tryd.func7, Tryd.ntmps7
  go_wp2_with fail
  refine HA.out.mono ?_
  rintro e w0 ⟨rfl, b0⟩
  go_wp2_with fail
  go_ret
  exact ⟨rfl, b0⟩
theorem back_top (m : Int) (s : ByteArray) (w : World) (hw : Wd w ∧ Mx w) (_ : (Lit.int .i64 m).wf = true) (ws : s.size ≤ maxLen) : Calls Tryd.prog 7 #[.int .i64 m, .string s] w fun e w' => e = .returned (.bool true) ∧ Below w.heap.size w w' := by
  by_cases h : s.size ≤ 1000
  · exact back_walk m s w hw h
  · exact back_long m s w hw (by omega) ws
end Go.Proofs.YtojempihchlgfaaDoor
