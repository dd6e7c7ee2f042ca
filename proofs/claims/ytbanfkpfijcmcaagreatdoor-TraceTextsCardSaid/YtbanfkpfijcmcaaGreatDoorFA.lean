/- flag: many, May, Ready beside the document's. -/
/- The walk of FlagAsks; the tables that the row lists. -/
/- slices.Index, slices.Contains; ByName. -/
/- The iterator bits. -/
import Derived.Test.YtbanfkpfijcmcaaGreatDoorBase
import Derived.LaidMore
import Derived.Stop.Joined
import Derived.Test.YtbanfkpfijcmcaaGreatDoorShelf
import Derived.RangeFuncNested
import Derived.RangeFuncBound
import Derived.RangeFuncCalls
import Derived.RangeFuncLeaves
import Derived.RangeFuncFrom
import Derived.Shelf.Abstract
import Derived.Shelf.RegionOpen
import Derived.OwnWalkIn
import Derived.TacticsInMore
import Derived.LoopNIn
import Derived.LoopIn
import Derived.WalkMore
import Derived.Maps.AppendAt

namespace Go.Proofs.YtbanfkpfijcmcaaGreatDoor.Fl
open Go.RowKit
set_option linter.unusedSimpArgs false
set_option linter.unusedVariables false

/-- The words, one behind the other. -/
def wl : List ByteArray := [⟨#[116, 105, 109, 101, 111, 117, 116]⟩, ⟨#[114, 101, 97, 100]⟩, ⟨#[119, 114, 105, 116, 101]⟩, ⟨#[115, 105, 103, 110, 97, 108]⟩, ⟨#[112, 101, 114, 115, 105, 115, 116]⟩, ⟨#[101, 100, 103, 101]⟩, ⟨#[101, 100, 103, 101]⟩, ⟨#[98, 105, 103]⟩, ⟨#[115, 105, 103, 110, 97, 108, 115]⟩, ⟨#[99, 104, 97, 110, 103, 101, 115]⟩, ⟨#[]⟩, ⟨#[]⟩, ⟨#[115, 101, 108, 101, 99, 116]⟩, ⟨#[112, 111, 108, 108]⟩, ⟨#[101, 112, 111, 108, 108]⟩, ⟨#[107, 113, 117, 101, 117, 101]⟩, ⟨#[]⟩, ⟨#[]⟩]
/-- The variable 'words' holds the words. -/
def Wd (w : World) : Prop := ∀ i, i < 18 → w.cell? ⟨1, i, none⟩ = some (.string (wl.getD i ByteArray.empty))

theorem Wd.t0 {w : World} (h : Wd w) : w.cell? ⟨1, 0, none⟩ = some (.string ⟨#[116, 105, 109, 101, 111, 117, 116]⟩) ∧ w.cell? ⟨1, 1, none⟩ = some (.string ⟨#[114, 101, 97, 100]⟩) ∧ w.cell? ⟨1, 2, none⟩ = some (.string ⟨#[119, 114, 105, 116, 101]⟩) ∧ w.cell? ⟨1, 3, none⟩ = some (.string ⟨#[115, 105, 103, 110, 97, 108]⟩) ∧ w.cell? ⟨1, 4, none⟩ = some (.string ⟨#[112, 101, 114, 115, 105, 115, 116]⟩) ∧ w.cell? ⟨1, 5, none⟩ = some (.string ⟨#[101, 100, 103, 101]⟩) :=
  ⟨(h 0 (by decide)), (h 1 (by decide)), (h 2 (by decide)), (h 3 (by decide)), (h 4 (by decide)), (h 5 (by decide))⟩
theorem Wd.t1 {w : World} (h : Wd w) : w.cell? ⟨1, 6, none⟩ = some (.string ⟨#[101, 100, 103, 101]⟩) ∧ w.cell? ⟨1, 7, none⟩ = some (.string ⟨#[98, 105, 103]⟩) ∧ w.cell? ⟨1, 8, none⟩ = some (.string ⟨#[115, 105, 103, 110, 97, 108, 115]⟩) ∧ w.cell? ⟨1, 9, none⟩ = some (.string ⟨#[99, 104, 97, 110, 103, 101, 115]⟩) ∧ w.cell? ⟨1, 10, none⟩ = some (.string ⟨#[]⟩) ∧ w.cell? ⟨1, 11, none⟩ = some (.string ⟨#[]⟩) :=
  ⟨(h 6 (by decide)), (h 7 (by decide)), (h 8 (by decide)), (h 9 (by decide)), (h 10 (by decide)), (h 11 (by decide))⟩
theorem Wd.t2 {w : World} (h : Wd w) : w.cell? ⟨1, 12, none⟩ = some (.string ⟨#[115, 101, 108, 101, 99, 116]⟩) ∧ w.cell? ⟨1, 13, none⟩ = some (.string ⟨#[112, 111, 108, 108]⟩) ∧ w.cell? ⟨1, 14, none⟩ = some (.string ⟨#[101, 112, 111, 108, 108]⟩) ∧ w.cell? ⟨1, 15, none⟩ = some (.string ⟨#[107, 113, 117, 101, 117, 101]⟩) ∧ w.cell? ⟨1, 16, none⟩ = some (.string ⟨#[]⟩) ∧ w.cell? ⟨1, 17, none⟩ = some (.string ⟨#[]⟩) :=
  ⟨(h 12 (by decide)), (h 13 (by decide)), (h 14 (by decide)), (h 15 (by decide)), (h 16 (by decide)), (h 17 (by decide))⟩

set_option maxHeartbeats 2000000 in
theorem many0 (w : World) (h : Wd w) : Calls Tryz.prog 81 #[.int .i64 0] w fun e w' => e = .returned (.int .i64 6) ∧ w = w' := by
  obtain ⟨c0, c1, c2, c3, c4, c5⟩ := h.t0
  clear h
  have i0 : ∀ w, (Instr.index 131 (.agg #[.string ⟨#[116, 105, 109, 101, 111, 117, 116]⟩, .string ⟨#[114, 101, 97, 100]⟩, .string ⟨#[119, 114, 105, 116, 101]⟩, .string ⟨#[115, 105, 103, 110, 97, 108]⟩, .string ⟨#[112, 101, 114, 115, 105, 115, 116]⟩, .string ⟨#[101, 100, 103, 101]⟩]) (.int .i64 0)).run Tryz.prog w = .ok (.string ⟨#[116, 105, 109, 101, 111, 117, 116]⟩) w := fun _ => by kernel_rfl
  have i1 : ∀ w, (Instr.index 131 (.agg #[.string ⟨#[116, 105, 109, 101, 111, 117, 116]⟩, .string ⟨#[114, 101, 97, 100]⟩, .string ⟨#[119, 114, 105, 116, 101]⟩, .string ⟨#[115, 105, 103, 110, 97, 108]⟩, .string ⟨#[112, 101, 114, 115, 105, 115, 116]⟩, .string ⟨#[101, 100, 103, 101]⟩]) (.int .i64 1)).run Tryz.prog w = .ok (.string ⟨#[114, 101, 97, 100]⟩) w := fun _ => by kernel_rfl
  have i2 : ∀ w, (Instr.index 131 (.agg #[.string ⟨#[116, 105, 109, 101, 111, 117, 116]⟩, .string ⟨#[114, 101, 97, 100]⟩, .string ⟨#[119, 114, 105, 116, 101]⟩, .string ⟨#[115, 105, 103, 110, 97, 108]⟩, .string ⟨#[112, 101, 114, 115, 105, 115, 116]⟩, .string ⟨#[101, 100, 103, 101]⟩]) (.int .i64 2)).run Tryz.prog w = .ok (.string ⟨#[119, 114, 105, 116, 101]⟩) w := fun _ => by kernel_rfl
  have i3 : ∀ w, (Instr.index 131 (.agg #[.string ⟨#[116, 105, 109, 101, 111, 117, 116]⟩, .string ⟨#[114, 101, 97, 100]⟩, .string ⟨#[119, 114, 105, 116, 101]⟩, .string ⟨#[115, 105, 103, 110, 97, 108]⟩, .string ⟨#[112, 101, 114, 115, 105, 115, 116]⟩, .string ⟨#[101, 100, 103, 101]⟩]) (.int .i64 3)).run Tryz.prog w = .ok (.string ⟨#[115, 105, 103, 110, 97, 108]⟩) w := fun _ => by kernel_rfl
  have i4 : ∀ w, (Instr.index 131 (.agg #[.string ⟨#[116, 105, 109, 101, 111, 117, 116]⟩, .string ⟨#[114, 101, 97, 100]⟩, .string ⟨#[119, 114, 105, 116, 101]⟩, .string ⟨#[115, 105, 103, 110, 97, 108]⟩, .string ⟨#[112, 101, 114, 115, 105, 115, 116]⟩, .string ⟨#[101, 100, 103, 101]⟩]) (.int .i64 4)).run Tryz.prog w = .ok (.string ⟨#[112, 101, 114, 115, 105, 115, 116]⟩) w := fun _ => by kernel_rfl
  have i5 : ∀ w, (Instr.index 131 (.agg #[.string ⟨#[116, 105, 109, 101, 111, 117, 116]⟩, .string ⟨#[114, 101, 97, 100]⟩, .string ⟨#[119, 114, 105, 116, 101]⟩, .string ⟨#[115, 105, 103, 110, 97, 108]⟩, .string ⟨#[112, 101, 114, 115, 105, 115, 116]⟩, .string ⟨#[101, 100, 103, 101]⟩]) (.int .i64 5)).run Tryz.prog w = .ok (.string ⟨#[101, 100, 103, 101]⟩) w := fun _ => by kernel_rfl
  go_enter Tryz.func81, Tryz.ntmps81
  go_wp2
  go_loop [3, 9] (fun n i => ∃ k : Nat, k ≤ 6 ∧ i = .int .i64 k ∧ n = .int .i64 (min k 6 : Nat)) (fun _ i => 6 - (intOf i).toNat)
  case atStart => exact ⟨0, by omega, rfl, rfl⟩
  case round =>
    obtain ⟨k, hk, rfl, rfl⟩ := hrel
    rcases (show k = 0 ∨ k = 1 ∨ k = 2 ∨ k = 3 ∨ k = 4 ∨ k = 5 ∨ k = 6 by omega) with rfl | rfl | rfl | rfl | rfl | rfl | rfl
    all_goals go_wp2
    all_goals first
      | (go_round
         case rel => first | exact ⟨1, by omega, rfl, rfl⟩ | exact ⟨2, by omega, rfl, rfl⟩ | exact ⟨3, by omega, rfl, rfl⟩ | exact ⟨4, by omega, rfl, rfl⟩ | exact ⟨5, by omega, rfl, rfl⟩ | exact ⟨6, by omega, rfl, rfl⟩
         case measure => simp [intOf])
      | (go_ret
         exact ⟨rfl, rfl⟩)

set_option maxHeartbeats 2000000 in
theorem many1 (w : World) (h : Wd w) : Calls Tryz.prog 81 #[.int .i64 1] w fun e w' => e = .returned (.int .i64 4) ∧ w = w' := by
  obtain ⟨c0, c1, c2, c3, c4, c5⟩ := h.t1
  clear h
  have i0 : ∀ w, (Instr.index 131 (.agg #[.string ⟨#[101, 100, 103, 101]⟩, .string ⟨#[98, 105, 103]⟩, .string ⟨#[115, 105, 103, 110, 97, 108, 115]⟩, .string ⟨#[99, 104, 97, 110, 103, 101, 115]⟩, .string ⟨#[]⟩, .string ⟨#[]⟩]) (.int .i64 0)).run Tryz.prog w = .ok (.string ⟨#[101, 100, 103, 101]⟩) w := fun _ => by kernel_rfl
  have i1 : ∀ w, (Instr.index 131 (.agg #[.string ⟨#[101, 100, 103, 101]⟩, .string ⟨#[98, 105, 103]⟩, .string ⟨#[115, 105, 103, 110, 97, 108, 115]⟩, .string ⟨#[99, 104, 97, 110, 103, 101, 115]⟩, .string ⟨#[]⟩, .string ⟨#[]⟩]) (.int .i64 1)).run Tryz.prog w = .ok (.string ⟨#[98, 105, 103]⟩) w := fun _ => by kernel_rfl
  have i2 : ∀ w, (Instr.index 131 (.agg #[.string ⟨#[101, 100, 103, 101]⟩, .string ⟨#[98, 105, 103]⟩, .string ⟨#[115, 105, 103, 110, 97, 108, 115]⟩, .string ⟨#[99, 104, 97, 110, 103, 101, 115]⟩, .string ⟨#[]⟩, .string ⟨#[]⟩]) (.int .i64 2)).run Tryz.prog w = .ok (.string ⟨#[115, 105, 103, 110, 97, 108, 115]⟩) w := fun _ => by kernel_rfl
  have i3 : ∀ w, (Instr.index 131 (.agg #[.string ⟨#[101, 100, 103, 101]⟩, .string ⟨#[98, 105, 103]⟩, .string ⟨#[115, 105, 103, 110, 97, 108, 115]⟩, .string ⟨#[99, 104, 97, 110, 103, 101, 115]⟩, .string ⟨#[]⟩, .string ⟨#[]⟩]) (.int .i64 3)).run Tryz.prog w = .ok (.string ⟨#[99, 104, 97, 110, 103, 101, 115]⟩) w := fun _ => by kernel_rfl
  have i4 : ∀ w, (Instr.index 131 (.agg #[.string ⟨#[101, 100, 103, 101]⟩, .string ⟨#[98, 105, 103]⟩, .string ⟨#[115, 105, 103, 110, 97, 108, 115]⟩, .string ⟨#[99, 104, 97, 110, 103, 101, 115]⟩, .string ⟨#[]⟩, .string ⟨#[]⟩]) (.int .i64 4)).run Tryz.prog w = .ok (.string ⟨#[]⟩) w := fun _ => by kernel_rfl
  have i5 : ∀ w, (Instr.index 131 (.agg #[.string ⟨#[101, 100, 103, 101]⟩, .string ⟨#[98, 105, 103]⟩, .string ⟨#[115, 105, 103, 110, 97, 108, 115]⟩, .string ⟨#[99, 104, 97, 110, 103, 101, 115]⟩, .string ⟨#[]⟩, .string ⟨#[]⟩]) (.int .i64 5)).run Tryz.prog w = .ok (.string ⟨#[]⟩) w := fun _ => by kernel_rfl
  go_enter Tryz.func81, Tryz.ntmps81
  go_wp2
  go_loop [3, 9] (fun n i => ∃ k : Nat, k ≤ 6 ∧ i = .int .i64 k ∧ n = .int .i64 (min k 4 : Nat)) (fun _ i => 6 - (intOf i).toNat)
  case atStart => exact ⟨0, by omega, rfl, rfl⟩
  case round =>
    obtain ⟨k, hk, rfl, rfl⟩ := hrel
    rcases (show k = 0 ∨ k = 1 ∨ k = 2 ∨ k = 3 ∨ k = 4 ∨ k = 5 ∨ k = 6 by omega) with rfl | rfl | rfl | rfl | rfl | rfl | rfl
    all_goals go_wp2
    all_goals first
      | (go_round
         case rel => first | exact ⟨1, by omega, rfl, rfl⟩ | exact ⟨2, by omega, rfl, rfl⟩ | exact ⟨3, by omega, rfl, rfl⟩ | exact ⟨4, by omega, rfl, rfl⟩ | exact ⟨5, by omega, rfl, rfl⟩ | exact ⟨6, by omega, rfl, rfl⟩
         case measure => simp [intOf])
      | (go_ret
         exact ⟨rfl, rfl⟩)

set_option maxHeartbeats 2000000 in
theorem many2 (w : World) (h : Wd w) : Calls Tryz.prog 81 #[.int .i64 2] w fun e w' => e = .returned (.int .i64 4) ∧ w = w' := by
  obtain ⟨c0, c1, c2, c3, c4, c5⟩ := h.t2
  clear h
  have i0 : ∀ w, (Instr.index 131 (.agg #[.string ⟨#[115, 101, 108, 101, 99, 116]⟩, .string ⟨#[112, 111, 108, 108]⟩, .string ⟨#[101, 112, 111, 108, 108]⟩, .string ⟨#[107, 113, 117, 101, 117, 101]⟩, .string ⟨#[]⟩, .string ⟨#[]⟩]) (.int .i64 0)).run Tryz.prog w = .ok (.string ⟨#[115, 101, 108, 101, 99, 116]⟩) w := fun _ => by kernel_rfl
  have i1 : ∀ w, (Instr.index 131 (.agg #[.string ⟨#[115, 101, 108, 101, 99, 116]⟩, .string ⟨#[112, 111, 108, 108]⟩, .string ⟨#[101, 112, 111, 108, 108]⟩, .string ⟨#[107, 113, 117, 101, 117, 101]⟩, .string ⟨#[]⟩, .string ⟨#[]⟩]) (.int .i64 1)).run Tryz.prog w = .ok (.string ⟨#[112, 111, 108, 108]⟩) w := fun _ => by kernel_rfl
  have i2 : ∀ w, (Instr.index 131 (.agg #[.string ⟨#[115, 101, 108, 101, 99, 116]⟩, .string ⟨#[112, 111, 108, 108]⟩, .string ⟨#[101, 112, 111, 108, 108]⟩, .string ⟨#[107, 113, 117, 101, 117, 101]⟩, .string ⟨#[]⟩, .string ⟨#[]⟩]) (.int .i64 2)).run Tryz.prog w = .ok (.string ⟨#[101, 112, 111, 108, 108]⟩) w := fun _ => by kernel_rfl
  have i3 : ∀ w, (Instr.index 131 (.agg #[.string ⟨#[115, 101, 108, 101, 99, 116]⟩, .string ⟨#[112, 111, 108, 108]⟩, .string ⟨#[101, 112, 111, 108, 108]⟩, .string ⟨#[107, 113, 117, 101, 117, 101]⟩, .string ⟨#[]⟩, .string ⟨#[]⟩]) (.int .i64 3)).run Tryz.prog w = .ok (.string ⟨#[107, 113, 117, 101, 117, 101]⟩) w := fun _ => by kernel_rfl
  have i4 : ∀ w, (Instr.index 131 (.agg #[.string ⟨#[115, 101, 108, 101, 99, 116]⟩, .string ⟨#[112, 111, 108, 108]⟩, .string ⟨#[101, 112, 111, 108, 108]⟩, .string ⟨#[107, 113, 117, 101, 117, 101]⟩, .string ⟨#[]⟩, .string ⟨#[]⟩]) (.int .i64 4)).run Tryz.prog w = .ok (.string ⟨#[]⟩) w := fun _ => by kernel_rfl
  have i5 : ∀ w, (Instr.index 131 (.agg #[.string ⟨#[115, 101, 108, 101, 99, 116]⟩, .string ⟨#[112, 111, 108, 108]⟩, .string ⟨#[101, 112, 111, 108, 108]⟩, .string ⟨#[107, 113, 117, 101, 117, 101]⟩, .string ⟨#[]⟩, .string ⟨#[]⟩]) (.int .i64 5)).run Tryz.prog w = .ok (.string ⟨#[]⟩) w := fun _ => by kernel_rfl
  go_enter Tryz.func81, Tryz.ntmps81
  go_wp2
  go_loop [3, 9] (fun n i => ∃ k : Nat, k ≤ 6 ∧ i = .int .i64 k ∧ n = .int .i64 (min k 4 : Nat)) (fun _ i => 6 - (intOf i).toNat)
  case atStart => exact ⟨0, by omega, rfl, rfl⟩
  case round =>
    obtain ⟨k, hk, rfl, rfl⟩ := hrel
    rcases (show k = 0 ∨ k = 1 ∨ k = 2 ∨ k = 3 ∨ k = 4 ∨ k = 5 ∨ k = 6 by omega) with rfl | rfl | rfl | rfl | rfl | rfl | rfl
    all_goals go_wp2
    all_goals first
      | (go_round
         case rel => first | exact ⟨1, by omega, rfl, rfl⟩ | exact ⟨2, by omega, rfl, rfl⟩ | exact ⟨3, by omega, rfl, rfl⟩ | exact ⟨4, by omega, rfl, rfl⟩ | exact ⟨5, by omega, rfl, rfl⟩ | exact ⟨6, by omega, rfl, rfl⟩
         case measure => simp [intOf])
      | (go_ret
         exact ⟨rfl, rfl⟩)
end Go.Proofs.YtbanfkpfijcmcaaGreatDoor.Fl

namespace Go.Proofs.YtbanfkpfijcmcaaGreatDoor.Fl
open Go.ChangeShapes Go.WideShapes Go.ChangeAt Go.WideMaps Go.WideElems Go.RowKit
set_option linter.unusedSimpArgs false
set_option linter.unusedVariables false

theorem gWords : Tryz.prog.globalNamed "roundhouse/flag.words" = some 1 := by kernel_rfl
theorem tWords : (Tryz.prog.globals[1]?).map (·.type) = some 132 := by kernel_rfl
theorem cells9 : Tryz.prog.cellsOf 9 = 1 := by kernel_rfl
theorem cells110 : Tryz.prog.cellsOf 131 = 6 := by kernel_rfl
theorem cells111 : Tryz.prog.cellsOf 132 = 18 := by kernel_rfl

section
variable {H : Type} {enc : TypeId × Value → H} {w : World} {base : Nat} {spare : Nat → Bool} {held : Bool}
/-- Six strings. -/
theorem open_six {n : Nat} {cs : List Value} {x : DataW H × List MemPlace} (l : List (List UInt8)) (h : DataW.trod enc Tryz.prog w base spare held n 131 cs = some x) (hx : x.1 = .agg (l.map fun b => .lit (.string b))) :
    ∀ j, j < 6 → cs[j]? = some (.string ⟨(l.getD j []).toArray⟩) := by
  obtain ⟨ys, m, _, rfl, hlen, hyl, hg⟩ := DataW.trod_array Tryz.underlying131 h
  rw [cells110] at hlen
  intro j hj
  have hjy : j < ys.length := by omega
  have h1 := hg j hj
  rw [List.getElem?_eq_getElem hjy, cells9, Nat.mul_one] at h1
  obtain ⟨s, hs, hy, _⟩ := DataW.trod_string Tryz.underlying9 h1
  simp only [DataW.agg.injEq] at hx
  have h2 : (ys.map (·.1))[j]? = some ys[j].1 := by rw [List.getElem?_map, List.getElem?_eq_getElem hjy]; rfl
  rw [hx, List.getElem?_map] at h2
  have hjc : j < cs.length := by omega
  have h3 : (cs.drop j).take 1 = [cs[j]] := by rw [List.drop_eq_getElem_cons hjc]; rfl
  rw [h3] at hs
  have h4 : cs[j] = .string s := by simpa using hs
  rw [List.getElem?_eq_getElem hjc, h4]
  cases hl : l[j]? with
  | none => rw [hl] at h2; simp at h2
  | some b =>
    rw [hl, hy] at h2
    simp at h2
    rw [List.getD, hl, Option.getD_some, h2]
end

def tab : List (List (List UInt8)) := [[[116, 105, 109, 101, 111, 117, 116], [114, 101, 97, 100], [119, 114, 105, 116, 101], [115, 105, 103, 110, 97, 108], [112, 101, 114, 115, 105, 115, 116], [101, 100, 103, 101]], [[101, 100, 103, 101], [98, 105, 103], [115, 105, 103, 110, 97, 108, 115], [99, 104, 97, 110, 103, 101, 115], [], []], [[115, 101, 108, 101, 99, 116], [112, 111, 108, 108], [101, 112, 111, 108, 108], [107, 113, 117, 101, 117, 101], [], []]]

theorem wl_tab (i : Nat) (h : i < 18) : wl.getD i ByteArray.empty = ⟨((tab.getD (i / 6) []).getD (i % 6) []).toArray⟩ := by
  rcases (show i = 0 ∨ i = 1 ∨ i = 2 ∨ i = 3 ∨ i = 4 ∨ i = 5 ∨ i = 6 ∨ i = 7 ∨ i = 8 ∨ i = 9 ∨ i = 10 ∨ i = 11 ∨ i = 12 ∨ i = 13 ∨ i = 14 ∨ i = 15 ∨ i = 16 ∨ i = 17 by omega) with rfl | rfl | rfl | rfl | rfl | rfl | rfl | rfl | rfl | rfl | rfl | rfl | rfl | rfl | rfl | rfl | rfl | rfl <;> rfl

end Go.Proofs.YtbanfkpfijcmcaaGreatDoor.Fl

namespace Go.Proofs.YtbanfkpfijcmcaaGreatDoor.Fl
open Go.RowKit
set_option linter.unusedSimpArgs false
set_option linter.unusedVariables false

/-- A slice of strings, as it is read. -/
def Strs (w : World) (a : Option Addr) (zs : List ByteArray) : Prop :=
  0 < zs.length → ∃ b off, a = some ⟨b, off, none⟩ ∧ b < w.heap.size ∧ ∀ i, i < zs.length → w.cell? ⟨b, off + i, none⟩ = some (.string (zs.getD i ByteArray.empty))
/-- Where a text stands first, from k on; -1: nowhere. -/
def sidx (s : ByteArray) : Nat → List ByteArray → Int
  | _, [] => -1
  | k, x :: xs => if s.toList == x.toList then (k : Int) else sidx s (k + 1) xs
theorem sgetD (l : List ByteArray) (k : Nat) (h : k < l.length) : l.getD k ByteArray.empty = l[k] := by simp [List.getD, h]
theorem sidx_yes (s : ByteArray) (l : List ByteArray) (k : Nat) (hk : k < l.length) (h : (s.toList == l[k].toList) = true) : sidx s k (l.drop k) = k := by
  rw [List.drop_eq_getElem_cons hk, sidx, if_pos h]
theorem sidx_no (s : ByteArray) (l : List ByteArray) (k : Nat) (hk : k < l.length) (h : (s.toList == l[k].toList) = false) : sidx s k (l.drop k) = sidx s (k + 1) (l.drop (k + 1)) := by
  rw [List.drop_eq_getElem_cons hk, sidx, h]; rfl

set_option maxHeartbeats 1000000 in
theorem sindex_any (s : ByteArray) (A : Option Addr) (c : Nat) (l : List ByteArray) (w : World) (hz : Strs w A l) (hl : l.length ≤ 300) (hc : l.length ≤ c) :
    Calls Tryz.prog 54 #[.slice A l.length c, .string s] w fun e w' => e = .returned (.int .i64 (sidx s 0 l)) ∧ w = w' := by
  have HZ := Lib.hid hz; clear hz
  generalize hg : sidx s 0 l = g
  have HG := Lib.hid hg; clear hg
  go_enter Tryz.func54, Tryz.ntmps54
  go_wp2
  go_loop [8] (fun i => ∃ k : Nat, k ≤ l.length ∧ i = .int .i64 k ∧ sidx s k (l.drop k) = g) (fun i => l.length - (intOf i).toNat)
  case atStart => exact ⟨0, Nat.zero_le _, rfl, by rw [← HG.out]; rfl⟩
  case round =>
    obtain ⟨k, hk, rfl, h⟩ := hrel
    have H := Lib.hid h; clear h
    by_cases hlt : k < l.length
    · obtain ⟨b, off, rfl, hb, hcc⟩ := HZ.out (by omega)
      have hck := hcc k hlt
      clear hcc
      rw [sgetD l k hlt] at hck
      have H1 := Lib.hid (sidx_yes s l k hlt)
      have H2 := Lib.hid (sidx_no s l k hlt)
      generalize hx : l[k] = x at hck H1 H2
      clear hx
      cases he : (s.toList == x.toList)
      · have H3 := Lib.hid (H2.out he)
        go_wp2
        go_round
        case rel => exact ⟨k + 1, by omega, by go_num, by rw [← H3.out]; exact H.out⟩
        case measure => simp [intOf]; omega
      · have H3 := Lib.hid (H1.out he)
        go_wp2
        go_ret
        exact ⟨by rw [← H.out, H3.out]; rfl, rfl⟩
    · go_wp2
      go_ret
      have := H.out
      rw [List.drop_of_length_le (by omega)] at this
      exact ⟨by rw [← this]; rfl, rfl⟩

end Go.Proofs.YtbanfkpfijcmcaaGreatDoor.Fl

namespace Go.Proofs.YtbanfkpfijcmcaaGreatDoor.Fl
open Go.RowKit Go.Shelf
attribute [local go_sem] Oper.semAt_some
set_option linter.unusedSimpArgs false
set_option linter.unusedVariables false
set_option maxRecDepth 100000

theorem lt_of_block {w : World} {g : Nat} {o : Obj} (h : w.heap[g]? = some o) : g < w.heap.size := (Array.getElem?_eq_some_iff.1 h).1
theorem grown_refl (w : World) (r : Option Nat) : w.grownBy w r := ⟨rfl, rfl, rfl, Nat.le_refl _, fun _ _ _ => rfl⟩
theorem grown_of_below {a w : World} (h : Below a.heap.size a w) (row : Option Nat) : a.grownBy w row := ⟨h.os, h.tape, h.output, h.size, fun i hi _ => h.block i hi⟩
theorem below_append {B base : Nat} {a w w' : World} {o : Obj} {e : TypeId} {s : Nat} {v : Value} {n : Nat} {xs : List Value} (h : Below B a w) (hown : w.ownsRow base e s v n xs) (hg : (w.alloc o).grownBy w' v.ownBlock) (hB : B ≤ base) (hs : base ≤ w.heap.size) : Below B a w' := by
  have h1 : Below B a (w.alloc o) := h.alloc (by omega) o
  refine h1.grown hg (by simp; omega) (fun k e => ?_)
  have := (hown.lt k e).1
  omega
theorem wpIn_scope_wide {n : Nat} {P : Program} {Q : Exit → Act → World → Prop} {a : Act} {w : World} {c : Code} (h : c.wpIn Fence.wide n P (Exit.noGoto Q) a w) : (Code.scope c).wpIn Fence.wide n P Q a w := wpIn_wide.2 (wp_scope_straight (wpIn_wide.1 h))
theorem Boxed.ow {A B : World} {row : Option Nat} {g : Nat} {t : TypeId} {v : Value} (h : Boxed A g t v) (hg : A.grownBy B row) (hr : ∀ r, row = some r → ∃ o : Obj, A.heap[r]? = some o ∧ o.isCells = false) : Boxed B g t v :=
  Go.Boxed.kept h hg (fun e => by obtain ⟨o, ho, hc⟩ := hr g e.symm; rw [show A.heap[g]? = _ from h] at ho; cases ho; cases hc)
theorem Boxed.low {W W1 : World} {g B : Nat} {t : TypeId} {v : Value} (h : Boxed W g t v) (hb : Below B W W1) (hg : g < B) : Boxed W1 g t v := (hb.block g hg).trans h

theorem Wd.same {w w' : World} (h : Wd w) (e : w'.heap[1]? = w.heap[1]?) : Wd w' := fun i hi => by
  have := h i hi
  unfold World.cell? at this ⊢
  simp only at this ⊢
  rw [e]; exact this
theorem Wd.lt {w : World} (h : Wd w) : 1 < w.heap.size := (cell_lt (h 0 (by decide))).1

/-- What a round keeps: the table of words, and the iterator's two boxes. -/
def KT (Bt Bm : Nat) (W W' : World) : Prop := W'.heap[1]? = W.heap[1]? ∧ W'.heap[Bt]? = W.heap[Bt]? ∧ W'.heap[Bm]? = W.heap[Bm]?
theorem KT.t {Bt Bm : Nat} {A B C : World} (h : KT Bt Bm A B) (k : KT Bt Bm B C) : KT Bt Bm A C := ⟨k.1.trans h.1, k.2.1.trans h.2.1, k.2.2.trans h.2.2⟩
theorem KT.b {Bt Bm : Nat} {w : World} (h0 : 1 < w.heap.size) (h1 : Bt < w.heap.size) (h2 : Bm < w.heap.size) (W : World) (l : Nat) (o o' : Obj) (hl : w.heap.size ≤ l) (h : W.heap[l]? = some o) (_ : o.isCells = false) (_ : o.isWalk = false) : KT Bt Bm W (W.putObj l o') :=
  ⟨World.putObj_heap_other (by omega), World.putObj_heap_other (by omega), World.putObj_heap_other (by omega)⟩
theorem KT.below {Bt Bm n₀ : Nat} {W W' : World} (h : Below n₀ W W') (h0 : 1 < n₀) (h1 : Bt < n₀) (h2 : Bm < n₀) : KT Bt Bm W W' := ⟨h.block _ h0, h.block _ h1, h.block _ h2⟩
theorem KT.set {Bt Bm g : Nat} (W : World) (v : Value) (h0 : 1 ≠ g) (h1 : Bt ≠ g) (h2 : Bm ≠ g) : KT Bt Bm W (W.setCell ⟨g, 0, none⟩ v) := ⟨Below.heap_setCell _ _ _ _ h0, Below.heap_setCell _ _ _ _ h1, Below.heap_setCell _ _ _ _ h2⟩

/-- How many words a table has. -/
def nT (T : Nat) : Nat := if T = 0 then 6 else 4
/-- The bits of a mask that come, below k. -/
def wb (m : Nat) (k : Nat) : List (Fin 6) := (List.finRange 6).filter (fun i => decide (i.val < k) && m.testBit i.val)
theorem wb_zero (m : Nat) : wb m 0 = [] := by unfold wb; simp
theorem wb_step : ∀ m : Fin 64, ∀ k : Fin 6, wb m.val (k.val + 1) = if m.val.testBit k.val then wb m.val k.val ++ [k] else wb m.val k.val := by decide +kernel
theorem wb_len (m k : Nat) : (wb m k).length ≤ 6 := by
  unfold wb
  exact Nat.le_trans (List.length_filter_le _ _) (by simp)
theorem bit_eq : ∀ m : Fin 64, ∀ k : Fin 6, (bits .and .i64 ((m.val : Int) / 2 ^ k.val) 1 == 1) = m.val.testBit k.val := by decide +kernel
theorem many_any (T : Nat) (w : World) (h : Wd w) (hT : T < 2) : Calls Tryz.prog 81 #[.int .i64 (T : Int)] w fun e w' => e = .returned (.int .i64 (nT T : Nat)) ∧ w = w' := by
  rcases (show T = 0 ∨ T = 1 by omega) with rfl | rfl
  · exact many0 w h
  · exact many1 w h
theorem wb_pre (m k : Nat) (hm : m < 64) (hk : k ≤ 6) (j : Nat) (hj : j ≤ k) : wb m j <+: wb m k := by
  induction k with
  | zero => obtain rfl : j = 0 := by omega
            exact List.prefix_refl _
  | succ k ih =>
    by_cases e : j = k + 1
    · subst e; exact List.prefix_refl _
    · refine (ih (by omega) (by omega)).trans ?_
      have := wb_step ⟨m, hm⟩ ⟨k, by omega⟩
      simp only at this
      rw [this]
      split
      · exact List.prefix_append _ _
      · exact List.prefix_refl _

theorem wb_short (m k : Nat) (hm : m < 64) (hk : k < 6) : (wb m k).length < 6 := by
  have H : ∀ m : Fin 64, ∀ k : Fin 6, (wb m.val k.val).length < 6 := by decide +kernel
  exact H ⟨m, hm⟩ ⟨k, hk⟩

set_option maxHeartbeats 2000000 in
theorem bits1_in (n : Nat) (hn : 1 ≤ n) (l Bt Bm T m : Nat) (hT : T < 2) (hm : m < 64) (J Jx : List (Fin 6) → World → Prop)
    (hY : ∀ pre (x : Fin 6) W, J pre W → pre.length < 6 → YieldAt Fence.wide (n - 1) Tryz.prog l #[.string (wl.getD (T * 6 + x.val) ByteArray.empty)] W fun e W' =>
      (e = .returned (.bool true) ∧ J (pre ++ [x]) W' ∧ KT Bt Bm W W') ∨ (e = .returned (.bool false) ∧ Jx (pre ++ [x]) W'))
    (W : World) (hW : Wd W) (hBt : Boxed W Bt 3 (.int .i64 (T : Int))) (hBm : Boxed W Bm 3 (.int .i64 (m : Int))) (hJ : AbidesFrom W.heap.size J) (h0 : J [] W) :
    CallsIn Fence.wide n Tryz.prog 103 #[.func (.yield l) #[] #[], .pointer (some ⟨Bt, 0, none⟩), .pointer (some ⟨Bm, 0, none⟩)] W fun e W' => (∃ v, e = .returned v) ∧
      ((∃ ys, ys = wb m (nT T) ∧ J ys W') ∨ (∃ pre, pre <+: wb m (nT T) ∧ Jx pre W')) := by
  have hN : nT T ≤ 6 := by unfold nT; split <;> omega
  have kt := hBt.cell
  have HM := Lib.hid (many_any T W hW hT)
  refine callsIn_of_wp Tryz.func103 rfl trivial ?_ rfl
  simp only [Tryz.ntmps103, List.size_toArray, List.length_cons, List.length_nil, Nat.reduceAdd, Nat.reduceSub, Array.replicate_succ, Array.replicate_zero, List.push_toArray, List.append_toArray, List.nil_append, List.cons_append]
  gi_wp2_with fail
  refine wpIn_scope_wide ?_
  gi_wp2_with fail
  refine wpIn_label ?_
  gi_wp2_with fail
  refine ⟨trivial, (callsIn_wide.2 HM.out).mono ?_⟩
  rintro e W1 ⟨rfl, rfl⟩
  clear kt HM
  gi_wp2_with fail
  gi_loopw [7] (fun i wr => ∃ k : Nat, k ≤ nT T ∧ i = .int .i64 k ∧ J (wb m k) wr ∧ Wd wr ∧ Boxed wr Bt 3 (.int .i64 (T : Int)) ∧ Boxed wr Bm 3 (.int .i64 (m : Int))) (fun i _ => nT T - (intOf i).toNat)
  case atStart => exact ⟨0, by omega, rfl, by rw [wb_zero]; exact h0, hW, hBt, hBm⟩
  case round =>
    obtain ⟨k, hk, rfl, hj, hw, bt, bm⟩ := hrel
    by_cases hlt : k < nT T
    · have hk6 : k < 6 := by omega
      have kt := bt.cell
      have km := bm.cell
      have hbit := bit_eq ⟨m, hm⟩ ⟨k, hk6⟩
      have hst := wb_step ⟨m, hm⟩ ⟨k, hk6⟩
      simp only at hbit hst
      have hcell := hw (T * 6 + k) (by omega)
      have hlen : (wb m k).length < 6 := wb_short m k hm hk6
      have HST := Lib.hid hst
      clear hst
      cases hp : m.testBit k
      · rw [hp] at hbit HST
        gi_wp2_with fail
        refine ⟨fun _ h => (by cases h), ?_⟩
        gi_wp2_with fail
        go_roundw
        case rel => exact ⟨k + 1, by omega, by go_num, by rw [HST.out]; exact hj, hw, bt, bm⟩
        case measure => simp [intOf]; omega
      · rw [hp] at hbit HST
        obtain ⟨fn, tmps, assign, body, hy, hR⟩ := hY _ ⟨k, hk6⟩ wr hj hlen
        dsimp only at hy
        generalize wl.getD (T * 6 + k) ByteArray.empty = X at *
        gi_wp2_with fail
        refine hR.mono ?_
        rintro e W3 (⟨rfl, hJ3, hk3⟩ | ⟨rfl, hJx3⟩)
        · gi_wp2_with fail
          go_roundw
          case rel => exact ⟨k + 1, by omega, by go_num, by rw [HST.out]; exact hJ3, hw.same hk3.1, hk3.2.1.trans bt, hk3.2.2.trans bm⟩
          case measure => simp [intOf]; omega
        · gi_wp2_with fail
          rw [Exit.noGoto_normal]
          go_end0
          refine ⟨⟨_, rfl⟩, .inr ⟨_, ?_, hJx3⟩⟩
          have := wb_pre m (nT T) hm hN (k + 1) (by omega)
          rw [HST.out] at this
          exact this
    · obtain rfl : k = nT T := by omega
      gi_wp2_with fail
      rw [Exit.noGoto_normal]
      go_end0
      exact ⟨⟨_, rfl⟩, .inl ⟨_, rfl, hj⟩⟩
end Go.Proofs.YtbanfkpfijcmcaaGreatDoor.Fl
