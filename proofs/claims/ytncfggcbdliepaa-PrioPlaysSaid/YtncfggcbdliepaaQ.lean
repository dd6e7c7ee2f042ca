/- alive; the calls that came in. -/
import Derived.Test.YtncfggcbdliepaaO
namespace Go.Proofs.Ytncfggcbdliepaa
open Go.ChangeShapes Go.WideShapes Go.ChangeAt Go.RowKit
set_option linter.unusedSimpArgs false
set_option linter.unusedVariables false
set_option maxRecDepth 100000

theorem al1 : putL 3 [] 2 7 2 0 = [⟨7, 2, 0, 2⟩] := by rfl
theorem al2 : putL 3 [⟨7, 2, 0, 2⟩] 0 5 1 0 = [⟨7, 2, 0, 2⟩, ⟨5, 1, 0, 0⟩] := by rfl
theorem al3 : putL 3 [⟨7, 2, 0, 2⟩, ⟨5, 1, 0, 0⟩] 1 7 4 0 = [⟨7, 6, 0, 2⟩, ⟨5, 1, 0, 0⟩] := by rfl
theorem ale1 : putE 3 2 7 2 0 = 0 := by rfl
theorem al4 : look [⟨7, 6, 0, 2⟩, ⟨5, 1, 0, 0⟩] 7 = some ⟨7, 6, 0, 2⟩ := by rfl
theorem al5 : least [⟨7, 6, 0, 2⟩, ⟨5, 1, 0, 0⟩] = 0 := by rfl

set_option maxHeartbeats 4000000 in
theorem alive_any (w : World) : Calls Try.prog 8 #[] w fun e w' => e = .returned (.bool true) ∧ Below w.heap.size w w' := by
  have wf7 : (Lit.int .i64 7).wf = true := by decide
  go_enter Try.func8, Try.ntmps8
  go_wp2_with fail
  refine (New_ok 3 w (by omega) (by omega)).mono ?_
  rintro e w1 ⟨⟨g, S, rfl, q1, s1⟩, b1⟩
  have Q1 := Lib.hid q1; have S1 := Lib.hid s1; have B1 := Lib.hid b1
  clear q1 s1 b1
  go_wp2_with fail
  refine (Put_any w1 g S 0 3 [] 2 7 2 0 Q1.out (by omega) (by omega) (by omega)).mono ?_
  rintro e w2 ⟨rfl, S2, q2, st2⟩
  rw [al1] at q2
  have Q2 := Lib.hid q2
  obtain ⟨b2, s2⟩ := st2.below S1.out B1.out.size
  have B2 := Lib.hid (B1.out.trans b2); have S2' := Lib.hid s2
  clear q2 st2 b2 s2
  go_wp2_with fail
  refine (Put_any w2 g S2 1 3 _ 0 5 1 0 Q2.out (by omega) (by omega) (by omega)).mono ?_
  rintro e w3 ⟨rfl, S3, q3, st3⟩
  rw [al2] at q3
  have Q3 := Lib.hid q3
  obtain ⟨b3, s3⟩ := st3.below S2'.out B2.out.size
  have B3 := Lib.hid (B2.out.trans b3); have S3' := Lib.hid s3
  clear q3 st3 b3 s3
  go_wp2_with fail
  refine (Put_any w3 g S3 2 3 _ 1 7 4 0 Q3.out (by omega) (by omega) (by omega)).mono ?_
  rintro e w4 ⟨rfl, S4, q4, st4⟩
  rw [al3] at q4
  have Q4 := Lib.hid q4
  obtain ⟨b4, s4⟩ := st4.below S3'.out B3.out.size
  have B4 := Lib.hid (B3.out.trans b4)
  clear q4 st4 b4 s4
  go_wp2_with fail
  refine (Has_yes w4 g S4 3 3 _ 7 _ Q4.out wf7 al4).mono ?_
  rintro e w5 ⟨rfl, b5⟩
  have B5 := Lib.hid (B4.out.trans (b5.mono B4.out.size))
  have LE := Lib.hid (fun (W : World) (hb : Below w5.heap.size w5 W) => Least_any W g S4 3 3 _ ((Q4.out.below b5).below hb) (by omega))
  rw [al5] at LE
  clear b5
  go_wp2_with fail
  refine (LE.out _ ((Below.refl _ _).alloc (Nat.le_refl _) _)).mono ?_
  rintro e w6 ⟨rfl, b6⟩
  have z5 := B5.out.size
  go_wp2_with fail
  go_ret
  exact ⟨rfl, (B5.out.alloc z5 _).trans (b6.mono (by simp; omega))⟩
end Go.Proofs.Ytncfggcbdliepaa
