/- The closed law RingNames. -/
import Derived.Test.YtebnfcpikhehkaaI
namespace Go.Proofs.Ytebnfcpikhehkaa
open Go.RowKit Go.Shelf
set_option linter.unusedSimpArgs false
set_option linter.unusedVariables false
set_option maxRecDepth 100000

set_option maxHeartbeats 1000000 in
theorem room_nil (w : World) : Calls Try.prog 14 #[.pointer none] w fun e w' => e = .returned (.int .i64 0) ∧ w = w' := by
  go_enter Try.func14, Try.ntmps14
  go_wp2_with fail
  refine (none_yes w).mono ?_
  rintro e w' ⟨rfl, rfl⟩
  go_wp2_with fail
  go_ret
  exact ⟨rfl, rfl⟩
set_option maxHeartbeats 1000000 in
theorem len_nil (w : World) : Calls Try.prog 13 #[.pointer none] w fun e w' => e = .returned (.int .i64 0) ∧ w = w' := by
  go_enter Try.func13, Try.ntmps13
  go_wp2_with fail
  refine (none_yes w).mono ?_
  rintro e w' ⟨rfl, rfl⟩
  go_wp2_with fail
  go_ret
  exact ⟨rfl, rfl⟩
set_option maxHeartbeats 1000000 in
theorem put_nil (A : Option Addr) (w : World) : Calls Try.prog 11 #[.pointer none, .slice A 1 1] w fun e w' => e = .returned (.int .i64 0) ∧ w = w' := by
  go_enter Try.func11, Try.ntmps11
  go_wp2_with fail
  refine (room_nil w).mono ?_
  rintro e w' ⟨rfl, rfl⟩
  go_wp2_with fail
  go_ret
  exact ⟨rfl, rfl⟩

set_option maxHeartbeats 8000000 in
theorem names_walk (w : World) : Calls Try.prog 8 #[] w fun e w' => e = .returned (.bool true) ∧ Below w.heap.size w w' := by
  have kc := fun (w : World) (C : Array Value) (n c : Nat) => Lib.run_convert_bytes_const (P := Try.prog) w 22 5 C n c Try.underlying22 Try.underlying5
  go_enter Try.func8, Try.ntmps8
  go_wp2_with fail
  refine (New_ok 4 w (by omega)).mono ?_
  rintro e w1 ⟨rfl, r1, b1⟩
  have R1 := Lib.hid r1; have B1 := Lib.hid b1; have z1 := b1.size; have l1 := r1.lt; clear r1 b1
  go_wp2_with fail
  refine (Put_new _ _ 4 [] 0 0 [97, 98, 99, 100] (4, 5) w1 R1.out (by decide) (by omega) (by decide)).mono ?_
  rintro e w2 ⟨rfl, r2, f2⟩
  have R2 : Hid (Rg w2 (w.heap.size + 1) w.heap.size 4 [97, 98, 99, 100] 4 0) := Lib.hid r2
  have B2 := Lib.hid (f2.below B1.out (by omega) (by omega) (by omega)); have z2 := f2.2.2.2.1; clear r2 f2
  go_wp2_with fail
  refine (Take_any _ _ 4 _ 4 0 2 w2 R2.out (by omega)).mono ?_
  rintro e w3 ⟨⟨v, rfl, v3⟩, r3, g3⟩
  have R3 : Hid (Rg w3 (w.heap.size + 1) w.heap.size 4 [99, 100] 4 2) := Lib.hid r3
  have B3 := Lib.hid ((Fr2.of_grown (gb := w.heap.size) g3).below B2.out (by omega) (by omega) (by omega)); have z3 := g3.size; clear r3 g3 v3
  go_wp2_with fail
  refine (Put_new _ _ 4 [99, 100] 4 2 [101, 102] (2, 3) w3 R3.out (by decide) (by omega) (by decide)).mono ?_
  rintro e w4 ⟨rfl, r4, f4⟩
  have R4 : Hid (Rg w4 (w.heap.size + 1) w.heap.size 4 [99, 100, 101, 102] 6 2) := Lib.hid r4
  have B4 := Lib.hid (f4.below B3.out (by omega) (by omega) (by omega)); have z4 := f4.2.2.2.1; clear r4 f4
  go_wp2_with fail
  refine (Counts_any _ _ 4 _ 6 2 w4 R4.out).mono ?_
  rintro e w5 ⟨rfl, b5⟩
  have R5 := Lib.hid (R4.out.below b5 (by omega) (by omega)); have B5 := Lib.hid (B4.out.trans (b5.mono (by omega))); have z5 := b5.size; clear b5
  go_wp2_with fail
  refine (Grow_bad _ _ 4 _ 6 2 3 w5 R5.out (by decide)).mono ?_
  rintro e w' ⟨rfl, rfl⟩
  go_wp2_with fail
  refine (Grow_bad _ _ 4 _ 6 2 65537 w5 R5.out (by decide)).mono ?_
  rintro e w' ⟨rfl, rfl⟩
  go_wp2_with fail
  refine (Grow_ok _ _ 4 _ 6 2 4 w5 R5.out (by decide) (by decide)).mono ?_
  rintro e w6 ⟨rfl, r6, g6⟩
  have B6 := Lib.hid ((Fr2.of_grown (gb := w.heap.size) g6).below B5.out (by omega) (by omega) (by omega)); have z6 := g6.size; have l6 := r6.lt
  have hgb : w.heap.size + 1 < w5.heap.size := by omega
  generalize w5.heap.size = gb at *
  have R6 := Lib.hid r6; clear r6 g6
  go_wp2_with fail
  refine (new_bad (-1) w6 (by decide)).mono ?_
  rintro e w' ⟨rfl, rfl⟩
  go_wp2_with fail
  refine (new_bad 65537 w6 (by decide)).mono ?_
  rintro e w' ⟨rfl, rfl⟩
  go_wp2_with fail
  refine (New_ok 0 w6 (by omega)).mono ?_
  rintro e w7 ⟨rfl, r7, b7⟩
  have R7 := Lib.hid (R6.out.below b7 (by omega) (by omega)); have T7 := Lib.hid r7; have B7 := Lib.hid (B6.out.trans (b7.mono (by omega))); have z7 := b7.size; have l7 := r7.lt; clear r7 b7
  go_wp2_with fail
  refine (alive_any w7).mono ?_
  rintro e w8 ⟨rfl, b8⟩
  have R8 := Lib.hid (R7.out.below b8 (by omega) (by omega)); have T8 := Lib.hid (T7.out.below b8 (by omega) (by omega)); have B8 := Lib.hid (B7.out.trans (b8.mono (by omega))); have z8 := b8.size; clear b8
  go_wp2_with fail
  refine (Room_any _ _ 4 _ 6 2 w8 R8.out).mono ?_
  rintro e w9 ⟨rfl, b9⟩
  have R9 := Lib.hid (R8.out.below b9 (by omega) (by omega)); have T9 := Lib.hid (T8.out.below b9 (by omega) (by omega)); have B9 := Lib.hid (B8.out.trans (b9.mono (by omega))); have z9 := b9.size; clear b9
  clear R1 R2 R3 R4 R5 R6 R7 R8 T7 T8 B1 B2 B3 B4 B5 B6 B7 B8
  go_wp2_with fail
  refine (Put_new _ _ 0 [] 0 0 [97] (1, 2) w9 T9.out (by decide) (by omega) (by decide)).mono ?_
  rintro e w10 ⟨rfl, r10, f10⟩
  have T10 : Hid (Rg w10 (w6.heap.size + 1) w6.heap.size 0 [] 0 0) := Lib.hid r10
  have R10 := Lib.hid (R9.out.fr2 f10 (by omega) (by omega) (by omega) (by omega)); have B10 := Lib.hid (f10.below B9.out (by omega) (by omega) (by omega)); have z10 := f10.2.2.2.1; clear r10 f10
  go_wp2_with fail
  refine (Take_any _ _ 0 [] 0 0 1 w10 T10.out (by omega)).mono ?_
  rintro e w11 ⟨⟨v, rfl, v11⟩, r11, g11⟩
  have R11 := Lib.hid (R10.out.grown g11 (by omega) (by omega)); have B11 := Lib.hid ((Fr2.of_grown (gb := w6.heap.size) g11).below B10.out (by omega) (by omega) (by omega)); have z11 := g11.size
  rw [List.take_nil] at v11
  obtain ⟨A11, c11, rfl, -⟩ := v11.form
  clear r11 g11 v11
  go_wp2_with fail
  refine (put_nil _ _).mono ?_
  rintro e w12 ⟨rfl, hw12⟩
  have b12 : Below w11.heap.size w11 w12 := by rw [← hw12]; exact (Below.refl _ _).alloc (Nat.le_refl _) _
  have R12 := Lib.hid (R11.out.below b12 (by omega) (by omega)); have B12 := Lib.hid (B11.out.trans (b12.mono (by omega))); have z12 := b12.size; clear b12 hw12
  go_wp2_with fail
  refine (Grow_nil 1 w12).mono ?_
  rintro e w' ⟨rfl, rfl⟩
  go_wp2_with fail
  refine (len_nil w12).mono ?_
  rintro e w' ⟨rfl, rfl⟩
  go_wp2_with fail
  refine (Take_any _ _ 4 _ 6 2 (-1) w12 R12.out (by omega)).mono ?_
  rintro e w13 ⟨⟨v, rfl, v13⟩, r13, g13⟩
  have R13 : Hid (Rg w13 (w.heap.size + 1) gb 4 [99, 100, 101, 102] 6 2) := Lib.hid r13
  have B13 := Lib.hid ((Fr2.of_grown (gb := gb) g13).below B12.out (by omega) (by omega) (by omega)); have z13 := g13.size
  have v13 : Got w13 w12.heap.size v [] := v13
  obtain ⟨A13, c13, rfl, -⟩ := v13.form
  clear r13 g13 v13
  go_wp2_with fail
  refine (Clear_any _ _ 4 _ 6 2 w13 R13.out (by omega)).mono ?_
  rintro e w14 ⟨rfl, r14, g14⟩
  have R14 := Lib.hid r14
  have B14 := Lib.hid ((Fr2.of_grown (gb := gb) g14).below B13.out (by omega) (by omega) (by omega)); clear r14 g14
  go_wp2_with fail
  refine (Len_any _ _ 4 [] 6 _ w14 R14.out).mono ?_
  rintro e w' ⟨rfl, rfl⟩
  go_wp2_with fail
  go_ret
  exact ⟨rfl, B14.out⟩
end Go.Proofs.Ytebnfcpikhehkaa
