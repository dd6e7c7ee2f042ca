/- EvmapNames. -/
import Derived.Test.YtllolfbjmpaamaaNn
import Derived.Test.YtllolfbjmpaamaaGr
namespace Go.Proofs.Ytllolfbjmpaamaa
open Go.RowKit
set_option linter.unusedSimpArgs false
set_option linter.unusedVariables false
set_option maxRecDepth 100000

set_option maxHeartbeats 16000000 in
theorem names_walk (w : World) : Calls Try.prog 6 #[] w fun e w' => e = .returned (.bool true) ∧ Below w.heap.size w w' := by
  have hz := zero69
  have hA0 : (Value.map none :: List.replicate 128 (.slice none 0 0)).toArray[0]? = some (.map none) := rfl
  generalize (Value.map none :: List.replicate 128 (.slice none 0 0)).toArray = A at *
  have HA0 := Lib.hid hA0
  clear hA0
  go_enter Try.func6, Try.ntmps6
  go_wp2_with fail
  refine (some_any _).mono ?_
  rintro e w1 ⟨⟨g, S, rfl, q1, s1⟩, b1⟩
  have R1 : Hid (Run w w1 g S 2 someL) := Lib.hid ⟨q1, b1, s1⟩
  clear q1 s1 b1
  -- Cut(5)
  have HC := Cut_ok w1 g S 2 someL ⟨5, 6, 3, 3⟩ R1.out.q (by omega) (by simp [someL]) (by decide)
  simp only at HC
  rw [show wants someL 3 = 6 by kernel_rfl, show cutL someL 5 = [⟨7, 2, 3, 3⟩] by kernel_rfl, show wants [⟨7, 2, 3, 3⟩] 3 = 2 by kernel_rfl] at HC
  have HC := Lib.hid HC
  go_wp2_with fail
  refine HC.out.mono ?_
  rintro e w2 ⟨rfl, S2, q2, st2⟩
  have R2 := Lib.hid (R1.out.step q2 st2)
  clear q2 st2 HC R1
  go_wp2_with fail
  -- Add(7, 4, 2)
  refine (Add_bad _ g S2 2 _ 7 4 2 R2.out.q (by omega) (by decide) (by decide) (by decide +kernel)).mono ?_
  rw [show chk [⟨7, 2, 3, 3⟩] 7 4 2 = 180 by kernel_rfl]
  rintro e w3 ⟨rfl, b3⟩
  have R3 := Lib.hid (R2.out.below b3)
  clear b3 R2
  go_wp2_with fail
  -- Cut(9)
  refine (Cut_bad _ g S2 2 _ 9 R3.out.q (by decide) (by kernel_rfl)).mono ?_
  rintro e w4 ⟨rfl, b4⟩
  have R4 := Lib.hid (R3.out.below b4)
  clear b4 R3
  go_wp2_with fail
  -- AddSignal(1, 2)
  have HC := AddSignal_ok w4 g S2 2 [⟨7, 2, 3, 3⟩] 1 2 R4.out.q (by omega) (by decide) (by kernel_rfl)
  rw [show ((sigL [⟨7, 2, 3, 3⟩] 2).length == 0) = true by kernel_rfl, show ([⟨7, 2, 3, 3⟩] ++ [⟨1, 0, 2, 2 + 96⟩] : List It) = [⟨7, 2, 3, 3⟩, ⟨1, 0, 2, 98⟩] by rfl] at HC
  refine HC.mono ?_
  clear HC
  rintro e w5 ⟨rfl, S5, q5, st5⟩
  have R5 := Lib.hid (R4.out.step q5 st5)
  clear q5 st5 R4
  go_wp2_with fail
  -- AddSignal(2, 2)
  have HC := AddSignal_ok w5 g S5 3 [⟨7, 2, 3, 3⟩, ⟨1, 0, 2, 98⟩] 2 2 R5.out.q (by omega) (by decide) (by kernel_rfl)
  rw [show ((sigL [⟨7, 2, 3, 3⟩, ⟨1, 0, 2, 98⟩] 2).length == 0) = false by kernel_rfl, show ([⟨7, 2, 3, 3⟩, ⟨1, 0, 2, 98⟩] ++ [⟨2, 0, 2, 2 + 96⟩] : List It) = [⟨7, 2, 3, 3⟩, ⟨1, 0, 2, 98⟩, ⟨2, 0, 2, 98⟩] by rfl] at HC
  refine HC.mono ?_
  clear HC
  rintro e w6 ⟨rfl, S6, q6, st6⟩
  have R6 := Lib.hid (R5.out.step q6 st6)
  clear q6 st6 R5
  go_wp2_with fail
  -- CutSignal(1)
  have HC := CutSignal_ok w6 g S6 4 [⟨7, 2, 3, 3⟩, ⟨1, 0, 2, 98⟩, ⟨2, 0, 2, 98⟩] ⟨1, 0, 2, 98⟩ R6.out.q (by omega) (by simp) rfl
  simp only at HC
  rw [show cutL [⟨7, 2, 3, 3⟩, ⟨1, 0, 2, 98⟩, ⟨2, 0, 2, 98⟩] 1 = [⟨7, 2, 3, 3⟩, ⟨2, 0, 2, 98⟩] by kernel_rfl, show ((sigL [⟨7, 2, 3, 3⟩, ⟨2, 0, 2, 98⟩] 2).length == 0) = false by kernel_rfl] at HC
  refine HC.mono ?_
  clear HC
  rintro e w7 ⟨rfl, S7, q7, st7⟩
  have R7 := Lib.hid (R6.out.step q7 st7)
  clear q7 st7 R6
  go_wp2_with fail
  -- CutSignal(2)
  have HC := CutSignal_ok w7 g S7 4 [⟨7, 2, 3, 3⟩, ⟨2, 0, 2, 98⟩] ⟨2, 0, 2, 98⟩ R7.out.q (by omega) (by simp) rfl
  simp only at HC
  rw [show cutL [⟨7, 2, 3, 3⟩, ⟨2, 0, 2, 98⟩] 2 = [⟨7, 2, 3, 3⟩] by kernel_rfl, show ((sigL [⟨7, 2, 3, 3⟩] 2).length == 0) = true by kernel_rfl] at HC
  refine HC.mono ?_
  clear HC
  rintro e w8 ⟨rfl, S8, q8, st8⟩
  have R8 := Lib.hid (R7.out.step q8 st8)
  clear q8 st8 R7
  go_wp2_with fail
  -- AddSignal(4, 3)
  have HC := AddSignal_ok w8 g S8 4 [⟨7, 2, 3, 3⟩] 4 3 R8.out.q (by omega) (by decide) (by kernel_rfl)
  rw [show ((sigL [⟨7, 2, 3, 3⟩] 3).length == 0) = true by kernel_rfl, show ([⟨7, 2, 3, 3⟩] ++ [⟨4, 0, 3, 3 + 96⟩] : List It) = [⟨7, 2, 3, 3⟩, ⟨4, 0, 3, 99⟩] by rfl] at HC
  refine HC.mono ?_
  clear HC
  rintro e w9 ⟨rfl, S9, q9, st9⟩
  have R9 := Lib.hid (R8.out.step q9 st9)
  clear q9 st9 R8
  go_wp2_with fail
  -- Cut(4), CutSignal(7)
  refine (Cut_bad _ g S9 _ _ 4 R9.out.q (by decide) (by kernel_rfl)).mono ?_
  rintro e w10 ⟨rfl, b10⟩
  have R10 := Lib.hid (R9.out.below b10)
  clear b10 R9
  go_wp2_with fail
  refine (CutSignal_bad _ g S9 _ _ 7 R10.out.q (by decide) (.inr (by decide +kernel))).mono ?_
  rintro e w11 ⟨rfl, b11⟩
  have R11 := Lib.hid (R10.out.below b11)
  clear b11 R10
  go_wp2_with fail
  refine (AddSignal_bad _ g S9 _ _ 8 0 R11.out.q (by decide) (by decide +kernel)).mono ?_
  rw [show asE [⟨7, 2, 3, 3⟩, ⟨4, 0, 3, 99⟩] 8 0 = 100 by kernel_rfl]
  rintro e w12 ⟨rfl, b12⟩
  have R12 := Lib.hid (R11.out.below b12)
  clear b12 R11
  go_wp2_with fail
  refine (Add_bad _ g S9 _ _ 8 (-1) 2 R12.out.q (by omega) (by decide) (by decide) (by decide +kernel)).mono ?_
  rw [show chk [⟨7, 2, 3, 3⟩, ⟨4, 0, 3, 99⟩] 8 (-1) 2 = 2 by kernel_rfl]
  rintro e w13 ⟨rfl, b13⟩
  have R13 := Lib.hid (R12.out.below b13)
  clear b13 R12
  go_wp2_with fail
  refine (Add_bad _ g S9 _ _ 8 1 0 R13.out.q (by omega) (by decide) (by decide) (by decide +kernel)).mono ?_
  rw [show chk [⟨7, 2, 3, 3⟩, ⟨4, 0, 3, 99⟩] 8 1 0 = 2 by kernel_rfl]
  rintro e w14 ⟨rfl, b14⟩
  have R14 := Lib.hid (R13.out.below b14)
  clear b14 R13
  go_wp2_with fail
  refine (Add_bad _ g S9 _ _ 8 1 32 R14.out.q (by omega) (by decide) (by decide) (by decide +kernel)).mono ?_
  rw [show chk [⟨7, 2, 3, 3⟩, ⟨4, 0, 3, 99⟩] 8 1 32 = 2 by kernel_rfl]
  rintro e w15 ⟨rfl, b15⟩
  have R15 := Lib.hid (R14.out.below b15)
  clear b15 R14
  go_wp2_with fail
  refine (Len_any _ g S9 _ _ R15.out.q).mono ?_
  rintro e w16 ⟨rfl, rfl⟩
  have B15 := Lib.hid R15.out.b
  clear R15
  simp only [List.length_cons, List.length_nil]
  go_wp2_with fail
  have ZN : Hid (∀ W, Below (w15.alloc (.cells A 69)).heap.size (w15.alloc (.cells A 69)) W → Nil W (.pointer (some ⟨w15.heap.size, 0, none⟩)) ∧ Nil W (.pointer none)) := Lib.hid (fun W hW => ⟨(Nil.zero _ _ (by simp) (by
    rw [(cell_of (new_block w15 (.cells A 69)) 0).1]; exact HA0.out)).below hW, Nil.nil W⟩)
  have B16 : Hid (Below w.heap.size w (w15.alloc (.cells A 69))) := Lib.hid (B15.out.alloc B15.out.size _)
  clear B15
  generalize hz15 : w15.heap.size = z at *
  clear hz15
  generalize w15.alloc (.cells A 69) = w16 at *
  refine (add_nil w16 _ 1 1 2 (ZN.out _ (Below.refl _ _)).2).mono ?_
  rintro e w17 ⟨rfl, b17⟩
  have Z17 := Lib.hid b17
  clear b17
  go_wp2_with fail
  refine (as_nil w17 _ 1 1 (ZN.out _ Z17.out).1).mono ?_
  rintro e w18 ⟨rfl, b18⟩
  have Z18 := Lib.hid (Z17.out.trans (b18.mono Z17.out.size))
  clear b18 Z17
  go_wp2_with fail
  refine (cut_nil w18 _ 1 (ZN.out _ Z18.out).2).mono ?_
  rintro e w19 ⟨rfl, b19⟩
  have Z19 := Lib.hid (Z18.out.trans (b19.mono Z18.out.size))
  clear b19 Z18
  go_wp2_with fail
  refine (cuts_nil w19 _ 1 (ZN.out _ Z19.out).1).mono ?_
  rintro e w20 ⟨rfl, b20⟩
  have Z20 := Lib.hid (Z19.out.trans (b20.mono Z19.out.size))
  clear b20 Z19
  go_wp2_with fail
  refine (alive_any w20).mono ?_
  rintro e w21 ⟨rfl, b21⟩
  have Z21 := Lib.hid (Z20.out.trans (b21.mono Z20.out.size))
  clear b21 Z20
  go_wp2_with fail
  refine (check_nil w21 _ 1 1 2 (ZN.out _ Z21.out).1).mono ?_
  rintro e w22 ⟨rfl, b22⟩
  have Z22 := Lib.hid (Z21.out.trans (b22.mono Z21.out.size))
  clear b22 Z21
  go_wp2_with fail
  refine (has_nil w22 _ 1 (ZN.out _ Z22.out).2).mono ?_
  rintro e w23 ⟨rfl, b23⟩
  have Z23 := Lib.hid (Z22.out.trans (b23.mono Z22.out.size))
  clear b23 Z22
  go_wp2_with fail
  refine (len_nil w23 _ (ZN.out _ Z23.out).1).mono ?_
  rintro e w24 ⟨rfl, b24⟩
  have Z24 := Lib.hid (Z23.out.trans (b24.mono Z23.out.size))
  clear b24 Z23
  go_wp2_with fail
  refine (wants_nil w24 _ 1 (ZN.out _ Z24.out).2).mono ?_
  rintro e w25 ⟨rfl, b25⟩
  have Z25 := Lib.hid (Z24.out.trans (b25.mono Z24.out.size))
  clear b25 Z24
  go_wp2_with fail
  refine (of_nil w25 _ 1 (ZN.out _ Z25.out).1).mono ?_
  rintro e w26 ⟨rfl, rfl⟩
  go_wp2_with fail
  refine (ofs_nil w25 _ 1 (ZN.out _ Z25.out).2).mono ?_
  rintro e w26 ⟨rfl, b26⟩
  have Z26 := Lib.hid (Z25.out.trans (b26.mono Z25.out.size))
  clear b26 Z25
  go_wp2_with fail
  refine (hits_nil w26 _ 1 6 (ZN.out _ Z26.out).1).mono ?_
  rintro e w27 ⟨rfl, b27⟩
  have Z27 := Lib.hid (Z26.out.trans (b27.mono Z26.out.size))
  clear b27 Z26
  go_wp2_with fail
  go_ret
  exact ⟨rfl, B16.out.trans (Z27.out.mono B16.out.size)⟩
end Go.Proofs.Ytllolfbjmpaamaa
