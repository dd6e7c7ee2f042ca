/- The law FdsetNames. -/
import Derived.Test.YtljfnfaljadjdaaDoorPw
import Derived.Test.YtljfnfaljadjdaaDoorY
import Derived.Deep.RegionHeld3
namespace Go.Proofs.YtljfnfaljadjdaaDoor
open Go.RowKit
set_option linter.unusedSimpArgs false
set_option linter.unusedVariables false
set_option maxRecDepth 100000

/-- The texts that are none's. -/
def tx : List ByteArray := [⟨#[49, 44, 50]⟩, ⟨#[51, 45, 51]⟩, ⟨#[54, 51, 45, 54, 52]⟩, ⟨#[48, 49]⟩, ⟨#[]⟩, ⟨#[51, 45, 49]⟩, ⟨#[49, 45]⟩, ⟨#[45, 49]⟩, ⟨#[49, 44, 44, 50]⟩, ⟨#[50, 44, 49]⟩, ⟨#[110, 111, 110, 101, 44, 49]⟩, ⟨#[43, 49]⟩, ⟨#[54, 52]⟩]
theorem tx_no : ∀ k : Fin 13, parseF (tx.getD k.val ByteArray.empty) = none ∧ (tx.getD k.val ByteArray.empty).size ≤ 1000 := by decide +kernel
theorem all_yes : parseF ⟨#[48, 45, 54, 51]⟩ = some (4294967295, 4294967295) := by decide +kernel
theorem parse_no (k : Nat) (hk : k < 13) (w : World) (hE : Env w) : Calls Tryd.prog 23 #[.string (tx.getD k ByteArray.empty)] w fun e w' => e = .returned (.tuple #[.agg #[.int .u32 0, .int .u32 0], .int .i64 11]) ∧ Below w.heap.size w w' := by
  have h := tx_no ⟨k, hk⟩
  refine (parse_any _ w hE h.2).mono ?_
  rintro e w' ⟨⟨p, ev, hp, rfl⟩, hb⟩
  rw [h.1] at hp
  rcases hp with ⟨hp, _⟩ | ⟨_, rfl, rfl⟩
  · cases hp
  · exact ⟨rfl, hb⟩
theorem parse_all (w : World) (hE : Env w) : Calls Tryd.prog 23 #[.string ⟨#[48, 45, 54, 51]⟩] w fun e w' => e = .returned (.tuple #[.agg #[.int .u32 4294967295, .int .u32 4294967295], .int .i64 0]) ∧ Below w.heap.size w w' := by
  refine (parse_any _ w hE (by decide)).mono ?_
  rintro e w' ⟨⟨p, ev, hp, rfl⟩, hb⟩
  rw [all_yes] at hp
  rcases hp with ⟨hp, rfl⟩ | ⟨hp, _⟩
  · injection hp with hp; subst hp; exact ⟨rfl, hb⟩
  · cases hp
theorem nx_none : nextOf (L 0 0) (-5) = none := by decide +kernel
theorem nx_last : nextOf (L 4294967295 4294967295) 63 = some 63 := by decide +kernel
theorem nx_no : nextOf (L 4294967295 4294967295) 64 = none := by decide +kernel
theorem all_len : pc 4294967295 + pc 4294967295 = 64 := by decide +kernel
theorem no_top : topN 0 0 = -1 := by decide +kernel
theorem next1 (w : World) : Calls Tryd.prog 20 #[.agg #[.int .u32 0, .int .u32 0], .int .i64 (-5)] w fun e w' => e = .returned (.tuple #[.int .i64 0, .bool false]) ∧ Below w.heap.size w w' := by
  have := next_any 0 0 (-5) w (by decide) (by decide)
  rw [nx_none] at this
  exact this
theorem next2 (w : World) : Calls Tryd.prog 20 #[.agg #[.int .u32 4294967295, .int .u32 4294967295], .int .i64 63] w fun e w' => e = .returned (.tuple #[.int .i64 63, .bool true]) ∧ Below w.heap.size w w' := by
  have := next_any 4294967295 4294967295 63 w (by decide) (by decide)
  rw [nx_last] at this
  exact this
theorem next3 (w : World) : Calls Tryd.prog 20 #[.agg #[.int .u32 4294967295, .int .u32 4294967295], .int .i64 64] w fun e w' => e = .returned (.tuple #[.int .i64 0, .bool false]) ∧ Below w.heap.size w w' := by
  have := next_any 4294967295 4294967295 64 w (by decide) (by decide)
  rw [nx_no] at this
  exact this
theorem len1 (w : World) : Calls Tryd.prog 18 #[.agg #[.int .u32 4294967295, .int .u32 4294967295]] w fun e w' => e = .returned (.int .i64 64) ∧ Below w.heap.size w w' := by
  have := len_any 4294967295 4294967295 w (by decide) (by decide)
  rw [all_len] at this
  exact this
theorem top1 (w : World) : Calls Tryd.prog 22 #[.agg #[.int .u32 0, .int .u32 0]] w fun e w' => e = .returned (.int .i64 (-1)) ∧ Below w.heap.size w w' := by
  have := top_any 0 0 w (by decide) (by decide)
  rw [no_top] at this
  exact this
theorem has_low : ∀ i, i < 64 → (hasN 4294967295 4294967295 i && decide ((i : Int) < -1)) = hasN 0 0 i := by decide +kernel
theorem has_high : ∀ i, i < 64 → (hasN 4294967295 4294967295 i && decide ((i : Int) < 4611686018427387904)) = hasN 4294967295 4294967295 i := by decide +kernel
theorem below1 (w : World) : Calls Tryd.prog 21 #[.agg #[.int .u32 4294967295, .int .u32 4294967295], .int .i64 (-1)] w fun e w' => e = .returned (.agg #[.int .u32 0, .int .u32 0]) ∧ Below w.heap.size w w' := by
  refine (below_any 4294967295 4294967295 (-1) w (by decide) (by decide)).mono ?_
  rintro e w' ⟨c, d, rfl, hC, hb⟩
  obtain ⟨rfl, rfl⟩ := set_ext c d 0 0 hC.hc hC.hd (by decide) (by decide) (fun i hi => (hC.all i hi).trans (has_low i hi))
  exact ⟨rfl, hb⟩
theorem below2 (w : World) : Calls Tryd.prog 21 #[.agg #[.int .u32 4294967295, .int .u32 4294967295], .int .i64 4611686018427387904] w fun e w' => e = .returned (.agg #[.int .u32 4294967295, .int .u32 4294967295]) ∧ Below w.heap.size w w' := by
  refine (below_any 4294967295 4294967295 4611686018427387904 w (by decide) (by decide)).mono ?_
  rintro e w' ⟨c, d, rfl, hC, hb⟩
  obtain ⟨rfl, rfl⟩ := set_ext c d 4294967295 4294967295 hC.hc hC.hd (by decide) (by decide) (fun i hi => (hC.all i hi).trans (has_high i hi))
  exact ⟨rfl, hb⟩
theorem without1 (w : World) : Calls Tryd.prog 12 #[.agg #[.int .u32 4294967295, .int .u32 4294967295], .int .i64 99] w fun e w' => e = .returned (.agg #[.int .u32 4294967295, .int .u32 4294967295]) ∧ Below w.heap.size w w' :=
  without_no 4294967295 4294967295 99 w (.inr (by decide))
theorem withX (fd : Int) (h : fd < 0 ∨ 64 ≤ fd) (w : World) : Calls Tryd.prog 11 #[.agg #[.int .u32 0, .int .u32 0], .int .i64 fd] w fun e w' => e = .returned (.tuple #[.agg #[.int .u32 0, .int .u32 0], .int .i64 10]) ∧ Below w.heap.size w w' := with_no 0 0 fd w h
end Go.Proofs.YtljfnfaljadjdaaDoor
