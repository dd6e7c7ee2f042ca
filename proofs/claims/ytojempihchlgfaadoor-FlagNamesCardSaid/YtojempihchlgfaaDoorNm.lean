/- The closed law FlagNames. -/
import Derived.Test.YtojempihchlgfaaDoorBk
import Derived.Test.YtojempihchlgfaaDoorO
namespace Go.Proofs.YtojempihchlgfaaDoor
open Go.RowKit
set_option linter.unusedSimpArgs false
set_option linter.unusedVariables false
set_option maxRecDepth 100000

def Env2 (w : World) : Prop := (Wd w ∧ Hs w) ∧ Mx w
theorem Hs.lt0 {w : World} (h : Hs w) : 0 < w.heap.size := (cell_lt h.1).1
theorem Env2.later {w w' : World} (h : Env2 w) (hb : Below w.heap.size w w') : Env2 w' :=
  ⟨⟨h.1.1.same (hb.block 1 h.1.1.lt), h.1.2.same (hb.block 0 h.1.2.lt0)⟩, h.2.same (hb.block 2 h.2.lt)⟩

set_option maxHeartbeats 1000000 in
theorem refused_any (s : ByteArray) (w : World) (hw : Env2 w) (hs : s.size ≤ 1000) (h1 : paE 0 s = 50) (h2 : paR 0 s = 0) : Calls Tryd.prog 31 #[.string s] w fun e w' => e = .returned (.int .i64 1) ∧ Below w.heap.size w w' := by
  have hP := Parse_any s w hw.1.1 hw.2 (by omega)
  unfold RP at hP
  rw [h1, h2] at hP
  have HP := Lib.hid hP
  clear hP h1 h2
  go_enter Tryd.func31, Tryd.ntmps31
  go_wp2_with fail
  refine HP.out.mono ?_
  rintro e w1 ⟨rfl, b1⟩
  go_wp2_with fail
  go_ret
  exact ⟨rfl, b1⟩

theorem c0 : (⟨(txL 0 0).toArray⟩ : ByteArray) = ⟨#[110, 111, 110, 101]⟩ ∧ txE 0 0 = 0 := by decide +kernel
theorem c64 : (⟨(txL 0 64).toArray⟩ : ByteArray) = ⟨#[]⟩ ∧ txE 0 64 = 50 := by decide +kernel
theorem cd1 : chd (fOk 1 4 []) 4 = 3 ∧ chE 3 = 0 ∧ chd (fOk 2 0 [4]) 4 = 3 ∧ chd (fOk 1 8 []) 4 = 0 ∧ chE 0 = 51 ∧ chd (fOk 0 2 []) 4 = 1 ∧ chE 1 = 0 := by decide +kernel
theorem cm : fMay 34 = true ∧ fMay 32 = false ∧ fMay 24 = true ∧ fMay 10 = false ∧ fMay 1 = false ∧ fMay 0 = true ∧ fReady 34 7 = 35 := by decide +kernel
theorem cr : (paE 0 ⟨#[119, 114, 105, 116, 101, 43, 114, 101, 97, 100]⟩ = 50 ∧ paR 0 ⟨#[119, 114, 105, 116, 101, 43, 114, 101, 97, 100]⟩ = 0) ∧ (paE 0 ⟨#[114, 101, 97, 100, 43, 114, 101, 97, 100]⟩ = 50 ∧ paR 0 ⟨#[114, 101, 97, 100, 43, 114, 101, 97, 100]⟩ = 0) ∧
    (paE 0 ⟨#[]⟩ = 50 ∧ paR 0 ⟨#[]⟩ = 0) ∧ (paE 0 ⟨#[114, 101, 97, 100, 43]⟩ = 50 ∧ paR 0 ⟨#[114, 101, 97, 100, 43]⟩ = 0) ∧ (paE 0 ⟨#[110, 111, 110, 101, 43, 114, 101, 97, 100]⟩ = 50 ∧ paR 0 ⟨#[110, 111, 110, 101, 43, 114, 101, 97, 100]⟩ = 0) := by decide +kernel

set_option maxHeartbeats 2000000 in
theorem names_walk (w : World) (hw : Env2 w) : Calls Tryd.prog 9 #[] w fun e w' => e = .returned (.bool true) ∧ Below w.heap.size w w' := by
  have nl : ∀ w, Ints .i64 w none [] := fun w h => absurd h (Nat.lt_irrefl _)
  have q1 : ∀ w, Env2 w → Calls Tryd.prog 23 #[.int .i64 0] w (RT 0 0 w) := fun w h => Text_any 0 w h.1.1
  have q2 : ∀ w, Env2 w → Calls Tryd.prog 23 #[.int .i64 64] w (RT 0 64 w) := fun w h => Text_any 64 w h.1.1
  unfold RT at q1 q2
  rw [c0.1, c0.2] at q1
  rw [c64.1, c64.2] at q2
  have q3 : ∀ w, Env2 w → Calls Tryd.prog 14 #[.int .i64 1, .int .i64 4, .slice none 0 0] w _ := fun w h => choose_in 1 4 none 0 [] w h.1.1 h.1.2 (nl w) (by decide) (by decide) (by decide) (by decide) (by decide) (by decide)
  have q5 : ∀ w, Env2 w → Calls Tryd.prog 14 #[.int .i64 1, .int .i64 8, .slice none 0 0] w _ := fun w h => choose_in 1 8 none 0 [] w h.1.1 h.1.2 (nl w) (by decide) (by decide) (by decide) (by decide) (by decide) (by decide)
  have q6 : ∀ w, Env2 w → Calls Tryd.prog 14 #[.int .i64 16, .int .i64 0, .slice none 0 0] w _ := fun w h => choose_out 16 0 none 0 0 w h.1.1 (by decide) (by decide) (by decide)
  have q7 : ∀ w, Env2 w → Calls Tryd.prog 14 #[.int .i64 0, .int .i64 2, .slice none 0 0] w _ := fun w h => choose_in 0 2 none 0 [] w h.1.1 h.1.2 (nl w) (by decide) (by decide) (by decide) (by decide) (by decide) (by decide)
  have q4 : ∀ w, Env2 w → Calls Tryd.prog 14 #[.int .i64 2, .int .i64 0, .slice (some ⟨w.heap.size, 0, none⟩) 1 1] (w.alloc (.cells #[.int .i64 4] 3)) _ := fun w h => by
    have hb : Below w.heap.size w (w.alloc (.cells #[.int .i64 4] 3)) := (Below.refl _ w).alloc (Nat.le_refl _) _
    have h' := h.later hb
    have hnew : (w.alloc (.cells #[.int .i64 4] 3)).heap[w.heap.size]? = some (.cells #[.int .i64 4] 3 (0, 0)) := World.alloc_heap_new w _
    exact choose_in 2 0 (some ⟨w.heap.size, 0, none⟩) 1 [4] _ h'.1.1 h'.1.2 (fun _ => ⟨w.heap.size, 0, rfl, by simp, fun i hi => by
      obtain rfl : i = 0 := by simp at hi; exact hi
      unfold World.cell?
      simp only [hnew]
      simp⟩) (by decide) (by decide) (by decide) (by decide) (by decide) (by decide)
  obtain ⟨d1, d2, d3, d4, d5, d6, d7⟩ := cd1
  rw [d1, d2] at q3
  rw [d3, d2] at q4
  rw [d4, d5] at q5
  rw [d6, d7] at q7
  clear d1 d2 d3 d4 d5 d6 d7
  obtain ⟨m1, m2, m3, m4, m5, m6, m7⟩ := cm
  have p1 : ∀ w, Env2 w → Calls Tryd.prog 10 #[.int .i64 34] w _ := fun w h => may_f 34 w h.1.1 (by decide) (by decide)
  have p2 : ∀ w, Env2 w → Calls Tryd.prog 10 #[.int .i64 32] w _ := fun w h => may_f 32 w h.1.1 (by decide) (by decide)
  have p3 : ∀ w, Env2 w → Calls Tryd.prog 10 #[.int .i64 24] w _ := fun w h => may_f 24 w h.1.1 (by decide) (by decide)
  have p4 : ∀ w, Env2 w → Calls Tryd.prog 10 #[.int .i64 10] w _ := fun w h => may_f 10 w h.1.1 (by decide) (by decide)
  have p5 : ∀ w, Env2 w → Calls Tryd.prog 10 #[.int .i64 1] w _ := fun w h => may_f 1 w h.1.1 (by decide) (by decide)
  have p6 : ∀ w, Env2 w → Calls Tryd.prog 10 #[.int .i64 0] w _ := fun w h => may_f 0 w h.1.1 (by decide) (by decide)
  have p7 : ∀ w, Calls Tryd.prog 12 #[.int .i64 34, .int .i64 7] w _ := fun w => ready_f 34 7 w (by decide) (by decide) (by decide) (by decide)
  rw [m1] at p1; rw [m2] at p2; rw [m3] at p3; rw [m4] at p4; rw [m5] at p5; rw [m6] at p6; rw [m7] at p7
  clear m1 m2 m3 m4 m5 m6 m7 nl
  have Q1 := Lib.hid q1; have Q2 := Lib.hid q2; have Q3 := Lib.hid q3; have Q4 := Lib.hid q4; have Q5 := Lib.hid q5; have Q6 := Lib.hid q6; have Q7 := Lib.hid q7
  have P1 := Lib.hid p1; have P2 := Lib.hid p2; have P3 := Lib.hid p3; have P4 := Lib.hid p4; have P5 := Lib.hid p5; have P6 := Lib.hid p6; have P7 := Lib.hid p7
  clear q1 q2 q3 q4 q5 q6 q7 p1 p2 p3 p4 p5 p6 p7
  have HW := Lib.hid hw; clear hw
  go_enter Tryd.func9, Tryd.ntmps9
  go_wp2_with fail
  refine (Q1.out w HW.out).mono ?_
  rintro e w1 ⟨rfl, b1⟩
  have W1 := Lib.hid (HW.out.later b1); have B1 := Lib.hid b1; have z1 := b1.size; clear b1
  go_wp2_with fail
  refine (Q2.out w1 W1.out).mono ?_
  rintro e w2 ⟨rfl, b2⟩
  have W2 := Lib.hid (W1.out.later b2); have B2 := Lib.hid (B1.out.trans (b2.mono (by omega))); have z2 := b2.size; clear b2
  go_wp2_with fail
  refine (Q3.out w2 W2.out).mono ?_
  rintro e w' ⟨rfl, rfl⟩
  go_wp2_with fail
  refine (Q4.out w2 W2.out).mono ?_
  rintro e w3 ⟨rfl, hw3⟩
  have b3 : Below w2.heap.size w2 w3 := by rw [← hw3]; exact (Below.refl _ _).alloc (Nat.le_refl _) _
  have W3 := Lib.hid (W2.out.later b3); have B3 := Lib.hid (B2.out.trans (b3.mono (by omega))); have z3 := b3.size; clear b3 hw3
  go_wp2_with fail
  refine (Q5.out w3 W3.out).mono ?_
  rintro e w' ⟨rfl, rfl⟩
  go_wp2_with fail
  refine (Q6.out w3 W3.out).mono ?_
  rintro e w' ⟨rfl, rfl⟩
  go_wp2_with fail
  refine (Q7.out w3 W3.out).mono ?_
  rintro e w' ⟨rfl, rfl⟩
  go_wp2_with fail
  refine (P1.out w3 W3.out).mono ?_
  rintro e w' ⟨rfl, rfl⟩
  go_wp2_with fail
  refine (P2.out w3 W3.out).mono ?_
  rintro e w' ⟨rfl, rfl⟩
  go_wp2_with fail
  refine (P3.out w3 W3.out).mono ?_
  rintro e w' ⟨rfl, rfl⟩
  go_wp2_with fail
  refine (P4.out w3 W3.out).mono ?_
  rintro e w' ⟨rfl, rfl⟩
  go_wp2_with fail
  refine (P5.out w3 W3.out).mono ?_
  rintro e w' ⟨rfl, rfl⟩
  go_wp2_with fail
  refine (P6.out w3 W3.out).mono ?_
  rintro e w' ⟨rfl, rfl⟩
  go_wp2_with fail
  refine (alive_any w3 W3.out.1.1).mono ?_
  rintro e w4 ⟨rfl, b4⟩
  have W4 := Lib.hid (W3.out.later b4); have B4 := Lib.hid (B3.out.trans (b4.mono (by omega))); have z4 := b4.size; clear b4
  go_wp2_with fail
  refine (refused_any _ w4 W4.out (by decide) cr.1.1 cr.1.2).mono ?_
  rintro e w5 ⟨rfl, b5⟩
  have W5 := Lib.hid (W4.out.later b5); have B5 := Lib.hid (B4.out.trans (b5.mono (by omega))); have z5 := b5.size; clear b5
  go_wp2_with fail
  refine (refused_any _ w5 W5.out (by decide) cr.2.1.1 cr.2.1.2).mono ?_
  rintro e w6 ⟨rfl, b6⟩
  have W6 := Lib.hid (W5.out.later b6); have B6 := Lib.hid (B5.out.trans (b6.mono (by omega))); have z6 := b6.size; clear b6
  go_wp2_with fail
  refine (refused_any _ w6 W6.out (by decide) cr.2.2.1.1 cr.2.2.1.2).mono ?_
  rintro e w7 ⟨rfl, b7⟩
  have W7 := Lib.hid (W6.out.later b7); have B7 := Lib.hid (B6.out.trans (b7.mono (by omega))); have z7 := b7.size; clear b7
  go_wp2_with fail
  refine (refused_any _ w7 W7.out (by decide) cr.2.2.2.1.1 cr.2.2.2.1.2).mono ?_
  rintro e w8 ⟨rfl, b8⟩
  have W8 := Lib.hid (W7.out.later b8); have B8 := Lib.hid (B7.out.trans (b8.mono (by omega))); have z8 := b8.size; clear b8
  go_wp2_with fail
  refine (refused_any _ w8 W8.out (by decide) cr.2.2.2.2.1 cr.2.2.2.2.2).mono ?_
  rintro e w9 ⟨rfl, b9⟩
  have B9 := Lib.hid (B8.out.trans (b9.mono (by omega))); clear b9
  go_wp2_with fail
  refine (P7.out w9).mono ?_
  rintro e w' ⟨rfl, rfl⟩
  go_wp2_with fail
  go_ret
  exact ⟨rfl, B9.out⟩
end Go.Proofs.YtojempihchlgfaaDoor
