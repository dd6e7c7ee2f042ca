/- some, alive. -/
import Derived.Test.YtllolfbjmpaamaaNw
namespace Go.Proofs.Ytllolfbjmpaamaa
open Go.RowKit Go.Shelf
set_option linter.unusedSimpArgs false
set_option linter.unusedVariables false
set_option maxRecDepth 100000

/-- The chapter's list. -/
def someL : List It := [⟨7, 2, 3, 3⟩, ⟨5, 6, 3, 3⟩]
theorem some_any (w : World) : Calls Try.prog 29 #[] w fun e w' => (∃ g S, e = .returned (.pointer (some ⟨g, 0, none⟩)) ∧
    Qw w' g S 2 someL ∧ ∀ b, S b → w.heap.size ≤ b) ∧ Below w.heap.size w w' := by
  go_enter Try.func29, Try.ntmps29
  go_wp2_with fail
  refine (New_ok _).mono ?_
  rintro e w1 ⟨⟨g, S, rfl, q1, s1⟩, b1⟩
  have Q1 := Lib.hid q1; have S1 := Lib.hid s1; have B1 := Lib.hid b1
  clear q1 s1 b1
  go_wp2_with fail
  refine (Add_ok _ g S 0 [] 7 3 2 Q1.out (by omega) (by decide) (by decide) (by decide +kernel)).mono ?_
  rintro e w2 ⟨rfl, S2, q2, s2⟩
  have Q2 := Lib.hid q2; have T2 := Lib.hid s2
  clear q2 s2
  go_wp2_with fail
  refine (Add_ok _ g S2 1 [⟨7, 2, 3, 3⟩] 5 3 6 Q2.out (by omega) (by decide) (by decide) (by decide +kernel)).mono ?_
  rintro e w3 ⟨rfl, S3, q3, s3⟩
  have Q3 := Lib.hid q3; have T3 := Lib.hid s3
  clear q3 s3
  go_wp2_with fail
  go_ret
  obtain ⟨b3, s3⟩ := (T2.out.trans T3.out).below S1.out B1.out.size
  exact ⟨⟨g, S3, rfl, Q3.out, s3⟩, B1.out.trans b3⟩

/-- A row of two hits, told in the code. -/
theorem own_two (w : World) (a b c d : Int) : (w.alloc (.cells #[.int .i64 a, .int .i64 b, .int .i64 c, .int .i64 d] 31)).ownsRow 0 31 2 (.slice (some ⟨w.heap.size, 0, none⟩) 2 2) 2 [.int .i64 a, .int .i64 b, .int .i64 c, .int .i64 d] :=
  ⟨rfl, .inr ⟨_, 2, _, rfl, Nat.zero_le _, new_block _ _, Nat.le_refl _, by decide, rfl, rfl⟩⟩

set_option maxHeartbeats 1000000 in
theorem alive_any (w : World) : Calls Try.prog 9 #[] w fun e w' => e = .returned (.bool true) ∧ Below w.heap.size w w' := by
  go_enter Try.func9, Try.ntmps9
  go_wp2_with fail
  refine (some_any _).mono ?_
  rintro e w1 ⟨⟨g, S, rfl, q1, s1⟩, b1⟩
  have Q1 := Lib.hid q1; have B1 := Lib.hid b1
  clear q1 s1 b1
  go_wp2_with fail
  refine (Add_bad _ g S 2 someL 6 3 36 Q1.out (by omega) (by decide) (by decide) (by decide +kernel)).mono ?_
  rintro e w2 ⟨rfl, b2⟩
  have Q2 := Lib.hid (Q1.out.below b2)
  have B2 := Lib.hid (B1.out.trans (b2.mono B1.out.size))
  clear b2
  rw [show chk someL 6 3 36 = 182 by decide +kernel]
  clear Q1 B1
  go_wp2_with fail
  refine (Hits_any _ g S 2 someL 3 2 Q2.out (by omega)).mono ?_
  rw [show hitsL (ofL someL 3) 2 = [⟨7, 2, 3, 3⟩, ⟨5, 2, 3, 3⟩] by kernel_rfl]
  rintro e w3 ⟨⟨v3, rfl, r3⟩, b3⟩
  have Q3 := Lib.hid (Q2.out.below b3)
  have B3 := Lib.hid (B2.out.trans (b3.mono B2.out.size))
  have R3 := Lib.hid (row_base r3)
  clear b3 r3 Q2 B2
  go_wp2_with fail
  refine (hits_same _ _ _ [⟨7, 2, 3, 3⟩, ⟨5, 2, 3, 3⟩] (by decide) (R3.out.alloc _) (own_two _ _ _ _ _)).mono ?_
  rintro e w4 ⟨rfl, b4⟩
  have b4' := (((Below.refl _ _).alloc (Nat.le_refl _) _).trans (b4.mono (by simp)))
  have Q4 := Lib.hid (Q3.out.below b4')
  have B4 := Lib.hid (B3.out.trans (b4'.mono B3.out.size))
  clear b4 b4' Q3 B3 R3
  go_wp2_with fail
  refine (Hits_any _ g S 2 someL 3 6 Q4.out (by omega)).mono ?_
  rw [show hitsL (ofL someL 3) 6 = [⟨7, 2, 3, 3⟩, ⟨5, 6, 3, 3⟩] by kernel_rfl]
  rintro e w5 ⟨⟨v5, rfl, r5⟩, b5⟩
  have Q5 := Lib.hid (Q4.out.below b5)
  have B5 := Lib.hid (B4.out.trans (b5.mono B4.out.size))
  have R5 := Lib.hid (row_base r5)
  clear b5 r5 Q4 B4
  go_wp2_with fail
  refine (hits_same _ _ _ [⟨7, 2, 3, 3⟩, ⟨5, 6, 3, 3⟩] (by decide) (R5.out.alloc _) (own_two _ _ _ _ _)).mono ?_
  rintro e w6 ⟨rfl, b6⟩
  have b6' := (((Below.refl _ _).alloc (Nat.le_refl _) _).trans (b6.mono (by simp)))
  have Q6 := Lib.hid (Q5.out.below b6')
  have B6 := Lib.hid (B5.out.trans (b6'.mono B5.out.size))
  clear b6 b6' Q5 B5 R5
  go_wp2_with fail
  refine (Wants_any _ g S 2 someL 3 Q6.out (by omega)).mono ?_
  rw [show wants someL 3 = 6 by kernel_rfl]
  rintro e w7 ⟨rfl, rfl⟩
  go_wp2_with fail
  go_ret
  exact ⟨rfl, B6.out⟩
end Go.Proofs.Ytllolfbjmpaamaa
