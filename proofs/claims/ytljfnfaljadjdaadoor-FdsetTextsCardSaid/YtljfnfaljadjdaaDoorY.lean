/- alive. -/
import Derived.Test.YtljfnfaljadjdaaDoorW
namespace Go.Proofs.YtljfnfaljadjdaaDoor
open Go.RowKit
set_option linter.unusedSimpArgs false
set_option linter.unusedVariables false
set_option maxRecDepth 100000

theorem al_wd : wd [3, 1, 2, 9, 3] = (526, 0) := by decide +kernel
theorem al_L : L 526 0 = [1, 2, 3, 9] := by decide +kernel
theorem al_next : nextOf (L 526 0) 4 = some 9 := by rw [al_L]; rfl
theorem al_text : textL 526 0 = [49, 45, 51, 44, 57] := by decide +kernel
theorem al_text0 : textL 0 0 = [110, 111, 110, 101] := by rfl
theorem al_top : topN 526 0 = 9 := by decide +kernel
theorem al_len : pc 6 + pc 0 = 2 := by decide +kernel
theorem al_has : ∀ i, i < 64 → (hasN 526 0 i && decide ((i : Int) < 3)) = hasN 6 0 i := by decide +kernel

/-- What alive holds. -/
structure Al (w wr : World) (g : Nat) : Prop where
  s : Sb wr g 526 0
  bel : Below w.heap.size w wr
theorem Al.later {w wr w1 : World} {g : Nat} (T : Al w wr g) (hb : Below wr.heap.size wr w1) : Al w w1 g := ⟨T.s.below hb T.s.lt, T.bel.trans (hb.mono T.bel.size)⟩

theorem five (w : World) : Ints .i64 (w.alloc (.cells #[.int .i64 3, .int .i64 1, .int .i64 2, .int .i64 9, .int .i64 3] 3)) (some ⟨w.heap.size, 0, none⟩) [3, 1, 2, 9, 3] := by
  intro _
  refine ⟨w.heap.size, 0, rfl, by simp, fun i hi => ?_⟩
  have h : i = 0 ∨ i = 1 ∨ i = 2 ∨ i = 3 ∨ i = 4 := by simp at hi; omega
  rcases h with rfl | rfl | rfl | rfl | rfl <;> simp

theorem al_next1 (w : World) : Calls Tryd.prog 20 #[.agg #[.int .u32 526, .int .u32 0], .int .i64 4] w fun e w' => e = .returned (.tuple #[.int .i64 9, .bool true]) ∧ Below w.heap.size w w' := by
  have := next_any 526 0 4 w (by decide) (by decide)
  rw [al_next] at this
  exact this
theorem al_text1 (w : World) : Calls Tryd.prog 25 #[.agg #[.int .u32 526, .int .u32 0]] w fun e w' => e = .returned (.string ⟨#[49, 45, 51, 44, 57]⟩) ∧ Below w.heap.size w w' := by
  have := text_any 526 0 w (by decide) (by decide)
  rw [al_text] at this
  exact this
theorem al_text2 (w : World) : Calls Tryd.prog 25 #[.agg #[.int .u32 0, .int .u32 0]] w fun e w' => e = .returned (.string ⟨#[110, 111, 110, 101]⟩) ∧ Below w.heap.size w w' := by
  have := text_any 0 0 w (by decide) (by decide)
  rw [al_text0] at this
  exact this
theorem al_top1 (w : World) : Calls Tryd.prog 22 #[.agg #[.int .u32 526, .int .u32 0]] w fun e w' => e = .returned (.int .i64 9) ∧ Below w.heap.size w w' := by
  have := top_any 526 0 w (by decide) (by decide)
  rw [al_top] at this
  exact this
theorem al_below1 (w : World) : Calls Tryd.prog 21 #[.agg #[.int .u32 526, .int .u32 0], .int .i64 3] w fun e w' => e = .returned (.agg #[.int .u32 6, .int .u32 0]) ∧ Below w.heap.size w w' := by
  refine (below_any 526 0 3 w (by decide) (by decide)).mono ?_
  rintro e w' ⟨c, d, rfl, hC, hb⟩
  obtain ⟨rfl, rfl⟩ := set_ext c d 6 0 hC.hc hC.hd (by decide) (by decide) (fun i hi => (hC.all i hi).trans (al_has i hi))
  exact ⟨rfl, hb⟩
theorem al_len1 (w : World) : Calls Tryd.prog 18 #[.agg #[.int .u32 6, .int .u32 0]] w fun e w' => e = .returned (.int .i64 2) ∧ Below w.heap.size w w' := by
  have := len_any 6 0 w (by decide) (by decide)
  rw [al_len] at this
  exact this

set_option maxHeartbeats 2000000 in
theorem alive_any (w : World) : Calls Tryd.prog 10 #[] w fun e w' => e = .returned (.bool true) ∧ Below w.heap.size w w' := by
  go_enter Tryd.func10, Tryd.ntmps10
  go_wp2_with fail
  have hfo := fof_ok (some ⟨w.heap.size, 0, none⟩) 5 [3, 1, 2, 9, 3] _ (five w) (by decide) (by decide) (by decide)
  rw [al_wd] at hfo
  refine hfo.mono ?_
  rintro e w1 ⟨rfl, b1⟩
  clear hfo
  simp only [sv]
  have s1 := Sb.new w1 526 0
  have B1 : Below w.heap.size w w1 := ((Below.refl _ w).alloc (Nat.le_refl _) _).trans (b1.mono (by simp))
  have T1 : Al w (w1.alloc (.cells #[.int .u32 (526 : Nat), .int .u32 (0 : Nat)] 24)) w1.heap.size := ⟨s1, B1.alloc B1.size _⟩
  clear s1 B1 b1
  have x0 : (w1.alloc (.cells #[.int .u32 (526 : Nat), .int .u32 (0 : Nat)] 24)).heap.size = (w1.alloc (.cells #[.int .u32 526, .int .u32 0] 24)).heap.size := rfl
  clear x0
  obtain ⟨c0, c1⟩ := T1.s.cells
  go_wp2_with fail
  refine (al_next1 _).mono ?_
  rintro e w2 ⟨rfl, b2⟩
  have T2 := T1.later b2
  clear T1 b2 c0 c1
  obtain ⟨c0, c1⟩ := T2.s.cells
  go_wp2_with fail
  refine (al_text1 _).mono ?_
  rintro e w3 ⟨rfl, b3⟩
  have T3 := T2.later b3
  clear T2 b3 c0 c1
  obtain ⟨c0, c1⟩ := T3.s.cells
  go_wp2_with fail
  refine (al_top1 _).mono ?_
  rintro e w4 ⟨rfl, b4⟩
  have T4 := T3.later b4
  clear T3 b4 c0 c1
  obtain ⟨c0, c1⟩ := T4.s.cells
  go_wp2_with fail
  refine (al_below1 _).mono ?_
  rintro e w5 ⟨rfl, b5⟩
  have T5 := T4.later b5
  clear T4 b5 c0 c1
  go_wp2_with fail
  refine (al_len1 _).mono ?_
  rintro e w6 ⟨rfl, b6⟩
  have T6 := T5.later b6
  clear T5 b6
  go_wp2_with fail
  refine (al_text2 _).mono ?_
  rintro e w7 ⟨rfl, b7⟩
  have T7 := T6.later b7
  clear T6 b7
  go_wp2_with fail
  go_ret
  exact ⟨rfl, T7.bel⟩
end Go.Proofs.YtljfnfaljadjdaaDoor
