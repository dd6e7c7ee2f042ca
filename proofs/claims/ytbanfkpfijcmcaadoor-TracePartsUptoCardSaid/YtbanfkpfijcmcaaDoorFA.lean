/- flag: many, May, Ready beside the document's. -/
import Derived.Test.YtbanfkpfijcmcaaDoorBase
namespace Go.Proofs.YtbanfkpfijcmcaaDoor.Fl
open Go.RowKit
set_option linter.unusedSimpArgs false
set_option linter.unusedVariables false

/-- The words, one behind the other. -/
def wl : List ByteArray := [⟨#[116, 105, 109, 101, 111, 117, 116]⟩, ⟨#[114, 101, 97, 100]⟩, ⟨#[119, 114, 105, 116, 101]⟩, ⟨#[115, 105, 103, 110, 97, 108]⟩, ⟨#[112, 101, 114, 115, 105, 115, 116]⟩, ⟨#[101, 100, 103, 101]⟩, ⟨#[101, 100, 103, 101]⟩, ⟨#[98, 105, 103]⟩, ⟨#[115, 105, 103, 110, 97, 108, 115]⟩, ⟨#[99, 104, 97, 110, 103, 101, 115]⟩, ⟨#[]⟩, ⟨#[]⟩, ⟨#[115, 101, 108, 101, 99, 116]⟩, ⟨#[112, 111, 108, 108]⟩, ⟨#[101, 112, 111, 108, 108]⟩, ⟨#[107, 113, 117, 101, 117, 101]⟩, ⟨#[]⟩, ⟨#[]⟩]
/-- The variable 'words' holds the words. -/
def Wd (w : World) : Prop := ∀ i, i < 18 → w.cell? ⟨1, i, none⟩ = some (.string (wl.getD i ByteArray.empty))

theorem Wd.t0 {w : World} (h : Wd w) : w.cell? ⟨1, 0, none⟩ = some (.string ⟨#[116, 105, 109, 101, 111, 117, 116]⟩) ∧ w.cell? ⟨1, 1, none⟩ = some (.string ⟨#[114, 101, 97, 100]⟩) ∧ w.cell? ⟨1, 2, none⟩ = some (.string ⟨#[119, 114, 105, 116, 101]⟩) ∧ w.cell? ⟨1, 3, none⟩ = some (.string ⟨#[115, 105, 103, 110, 97, 108]⟩) ∧ w.cell? ⟨1, 4, none⟩ = some (.string ⟨#[112, 101, 114, 115, 105, 115, 116]⟩) ∧ w.cell? ⟨1, 5, none⟩ = some (.string ⟨#[101, 100, 103, 101]⟩) :=
  ⟨(h 0 (by decide)), (h 1 (by decide)), (h 2 (by decide)), (h 3 (by decide)), (h 4 (by decide)), (h 5 (by decide))⟩
theorem Wd.t1 {w : World} (h : Wd w) : w.cell? ⟨1, 6, none⟩ = some (.string ⟨#[101, 100, 103, 101]⟩) ∧ w.cell? ⟨1, 7, none⟩ = some (.string ⟨#[98, 105, 103]⟩) ∧ w.cell? ⟨1, 8, none⟩ = some (.string ⟨#[115, 105, 103, 110, 97, 108, 115]⟩) ∧ w.cell? ⟨1, 9, none⟩ = some (.string ⟨#[99, 104, 97, 110, 103, 101, 115]⟩) ∧ w.cell? ⟨1, 10, none⟩ = some (.string ⟨#[]⟩) ∧ w.cell? ⟨1, 11, none⟩ = some (.string ⟨#[]⟩) :=
  ⟨(h 6 (by decide)), (h 7 (by decide)), (h 8 (by decide)), (h 9 (by decide)), (h 10 (by decide)), (h 11 (by decide))⟩
theorem Wd.t2 {w : World} (h : Wd w) : w.cell? ⟨1, 12, none⟩ = some (.string ⟨#[115, 101, 108, 101, 99, 116]⟩) ∧ w.cell? ⟨1, 13, none⟩ = some (.string ⟨#[112, 111, 108, 108]⟩) ∧ w.cell? ⟨1, 14, none⟩ = some (.string ⟨#[101, 112, 111, 108, 108]⟩) ∧ w.cell? ⟨1, 15, none⟩ = some (.string ⟨#[107, 113, 117, 101, 117, 101]⟩) ∧ w.cell? ⟨1, 16, none⟩ = some (.string ⟨#[]⟩) ∧ w.cell? ⟨1, 17, none⟩ = some (.string ⟨#[]⟩) :=
  ⟨(h 12 (by decide)), (h 13 (by decide)), (h 14 (by decide)), (h 15 (by decide)), (h 16 (by decide)), (h 17 (by decide))⟩

set_option maxHeartbeats 2000000 in
theorem many0 (w : World) (h : Wd w) : Calls Tryd.prog 56 #[.int .i64 0] w fun e w' => e = .returned (.int .i64 6) ∧ w = w' := by
  obtain ⟨c0, c1, c2, c3, c4, c5⟩ := h.t0
  clear h
  have i0 : ∀ w, (Instr.index 110 (.agg #[.string ⟨#[116, 105, 109, 101, 111, 117, 116]⟩, .string ⟨#[114, 101, 97, 100]⟩, .string ⟨#[119, 114, 105, 116, 101]⟩, .string ⟨#[115, 105, 103, 110, 97, 108]⟩, .string ⟨#[112, 101, 114, 115, 105, 115, 116]⟩, .string ⟨#[101, 100, 103, 101]⟩]) (.int .i64 0)).run Tryd.prog w = .ok (.string ⟨#[116, 105, 109, 101, 111, 117, 116]⟩) w := fun _ => by kernel_rfl
  have i1 : ∀ w, (Instr.index 110 (.agg #[.string ⟨#[116, 105, 109, 101, 111, 117, 116]⟩, .string ⟨#[114, 101, 97, 100]⟩, .string ⟨#[119, 114, 105, 116, 101]⟩, .string ⟨#[115, 105, 103, 110, 97, 108]⟩, .string ⟨#[112, 101, 114, 115, 105, 115, 116]⟩, .string ⟨#[101, 100, 103, 101]⟩]) (.int .i64 1)).run Tryd.prog w = .ok (.string ⟨#[114, 101, 97, 100]⟩) w := fun _ => by kernel_rfl
  have i2 : ∀ w, (Instr.index 110 (.agg #[.string ⟨#[116, 105, 109, 101, 111, 117, 116]⟩, .string ⟨#[114, 101, 97, 100]⟩, .string ⟨#[119, 114, 105, 116, 101]⟩, .string ⟨#[115, 105, 103, 110, 97, 108]⟩, .string ⟨#[112, 101, 114, 115, 105, 115, 116]⟩, .string ⟨#[101, 100, 103, 101]⟩]) (.int .i64 2)).run Tryd.prog w = .ok (.string ⟨#[119, 114, 105, 116, 101]⟩) w := fun _ => by kernel_rfl
  have i3 : ∀ w, (Instr.index 110 (.agg #[.string ⟨#[116, 105, 109, 101, 111, 117, 116]⟩, .string ⟨#[114, 101, 97, 100]⟩, .string ⟨#[119, 114, 105, 116, 101]⟩, .string ⟨#[115, 105, 103, 110, 97, 108]⟩, .string ⟨#[112, 101, 114, 115, 105, 115, 116]⟩, .string ⟨#[101, 100, 103, 101]⟩]) (.int .i64 3)).run Tryd.prog w = .ok (.string ⟨#[115, 105, 103, 110, 97, 108]⟩) w := fun _ => by kernel_rfl
  have i4 : ∀ w, (Instr.index 110 (.agg #[.string ⟨#[116, 105, 109, 101, 111, 117, 116]⟩, .string ⟨#[114, 101, 97, 100]⟩, .string ⟨#[119, 114, 105, 116, 101]⟩, .string ⟨#[115, 105, 103, 110, 97, 108]⟩, .string ⟨#[112, 101, 114, 115, 105, 115, 116]⟩, .string ⟨#[101, 100, 103, 101]⟩]) (.int .i64 4)).run Tryd.prog w = .ok (.string ⟨#[112, 101, 114, 115, 105, 115, 116]⟩) w := fun _ => by kernel_rfl
  have i5 : ∀ w, (Instr.index 110 (.agg #[.string ⟨#[116, 105, 109, 101, 111, 117, 116]⟩, .string ⟨#[114, 101, 97, 100]⟩, .string ⟨#[119, 114, 105, 116, 101]⟩, .string ⟨#[115, 105, 103, 110, 97, 108]⟩, .string ⟨#[112, 101, 114, 115, 105, 115, 116]⟩, .string ⟨#[101, 100, 103, 101]⟩]) (.int .i64 5)).run Tryd.prog w = .ok (.string ⟨#[101, 100, 103, 101]⟩) w := fun _ => by kernel_rfl
  go_enter Tryd.func56, Tryd.ntmps56
  go_wp2
  go_loop [3, 9] (fun n i => ∃ k : Nat, k ≤ 6 ∧ i = .int .i64 k ∧ n = .int .i64 (min k 6 : Nat)) (fun _ i => 6 - (intOf i).toNat)
  case atStart => exact ⟨0, by omega, rfl, rfl⟩
  case round =>
    obtain ⟨k, hk, rfl, rfl⟩ := hrel
    rcases (show k = 0 ∨ k = 1 ∨ k = 2 ∨ k = 3 ∨ k = 4 ∨ k = 5 ∨ k = 6 by omega) with rfl | rfl | rfl | rfl | rfl | rfl | rfl
    all_goals go_wp2
    all_goals first
      | (go_round
         case rel => first | exact ⟨1, by omega, rfl, rfl⟩ | exact ⟨2, by omega, rfl, rfl⟩ | exact ⟨3, by omega, rfl, rfl⟩ | exact ⟨4, by omega, rfl, rfl⟩ | exact ⟨5, by omega, rfl, rfl⟩ | exact ⟨6, by omega, rfl, rfl⟩
         case measure => simp [intOf])
      | (go_ret
         exact ⟨rfl, rfl⟩)

set_option maxHeartbeats 2000000 in
theorem many1 (w : World) (h : Wd w) : Calls Tryd.prog 56 #[.int .i64 1] w fun e w' => e = .returned (.int .i64 4) ∧ w = w' := by
  obtain ⟨c0, c1, c2, c3, c4, c5⟩ := h.t1
  clear h
  have i0 : ∀ w, (Instr.index 110 (.agg #[.string ⟨#[101, 100, 103, 101]⟩, .string ⟨#[98, 105, 103]⟩, .string ⟨#[115, 105, 103, 110, 97, 108, 115]⟩, .string ⟨#[99, 104, 97, 110, 103, 101, 115]⟩, .string ⟨#[]⟩, .string ⟨#[]⟩]) (.int .i64 0)).run Tryd.prog w = .ok (.string ⟨#[101, 100, 103, 101]⟩) w := fun _ => by kernel_rfl
  have i1 : ∀ w, (Instr.index 110 (.agg #[.string ⟨#[101, 100, 103, 101]⟩, .string ⟨#[98, 105, 103]⟩, .string ⟨#[115, 105, 103, 110, 97, 108, 115]⟩, .string ⟨#[99, 104, 97, 110, 103, 101, 115]⟩, .string ⟨#[]⟩, .string ⟨#[]⟩]) (.int .i64 1)).run Tryd.prog w = .ok (.string ⟨#[98, 105, 103]⟩) w := fun _ => by kernel_rfl
  have i2 : ∀ w, (Instr.index 110 (.agg #[.string ⟨#[101, 100, 103, 101]⟩, .string ⟨#[98, 105, 103]⟩, .string ⟨#[115, 105, 103, 110, 97, 108, 115]⟩, .string ⟨#[99, 104, 97, 110, 103, 101, 115]⟩, .string ⟨#[]⟩, .string ⟨#[]⟩]) (.int .i64 2)).run Tryd.prog w = .ok (.string ⟨#[115, 105, 103, 110, 97, 108, 115]⟩) w := fun _ => by kernel_rfl
  have i3 : ∀ w, (Instr.index 110 (.agg #[.string ⟨#[101, 100, 103, 101]⟩, .string ⟨#[98, 105, 103]⟩, .string ⟨#[115, 105, 103, 110, 97, 108, 115]⟩, .string ⟨#[99, 104, 97, 110, 103, 101, 115]⟩, .string ⟨#[]⟩, .string ⟨#[]⟩]) (.int .i64 3)).run Tryd.prog w = .ok (.string ⟨#[99, 104, 97, 110, 103, 101, 115]⟩) w := fun _ => by kernel_rfl
  have i4 : ∀ w, (Instr.index 110 (.agg #[.string ⟨#[101, 100, 103, 101]⟩, .string ⟨#[98, 105, 103]⟩, .string ⟨#[115, 105, 103, 110, 97, 108, 115]⟩, .string ⟨#[99, 104, 97, 110, 103, 101, 115]⟩, .string ⟨#[]⟩, .string ⟨#[]⟩]) (.int .i64 4)).run Tryd.prog w = .ok (.string ⟨#[]⟩) w := fun _ => by kernel_rfl
  have i5 : ∀ w, (Instr.index 110 (.agg #[.string ⟨#[101, 100, 103, 101]⟩, .string ⟨#[98, 105, 103]⟩, .string ⟨#[115, 105, 103, 110, 97, 108, 115]⟩, .string ⟨#[99, 104, 97, 110, 103, 101, 115]⟩, .string ⟨#[]⟩, .string ⟨#[]⟩]) (.int .i64 5)).run Tryd.prog w = .ok (.string ⟨#[]⟩) w := fun _ => by kernel_rfl
  go_enter Tryd.func56, Tryd.ntmps56
  go_wp2
  go_loop [3, 9] (fun n i => ∃ k : Nat, k ≤ 6 ∧ i = .int .i64 k ∧ n = .int .i64 (min k 4 : Nat)) (fun _ i => 6 - (intOf i).toNat)
  case atStart => exact ⟨0, by omega, rfl, rfl⟩
  case round =>
    obtain ⟨k, hk, rfl, rfl⟩ := hrel
    rcases (show k = 0 ∨ k = 1 ∨ k = 2 ∨ k = 3 ∨ k = 4 ∨ k = 5 ∨ k = 6 by omega) with rfl | rfl | rfl | rfl | rfl | rfl | rfl
    all_goals go_wp2
    all_goals first
      | (go_round
         case rel => first | exact ⟨1, by omega, rfl, rfl⟩ | exact ⟨2, by omega, rfl, rfl⟩ | exact ⟨3, by omega, rfl, rfl⟩ | exact ⟨4, by omega, rfl, rfl⟩ | exact ⟨5, by omega, rfl, rfl⟩ | exact ⟨6, by omega, rfl, rfl⟩
         case measure => simp [intOf])
      | (go_ret
         exact ⟨rfl, rfl⟩)

set_option maxHeartbeats 2000000 in
theorem many2 (w : World) (h : Wd w) : Calls Tryd.prog 56 #[.int .i64 2] w fun e w' => e = .returned (.int .i64 4) ∧ w = w' := by
  obtain ⟨c0, c1, c2, c3, c4, c5⟩ := h.t2
  clear h
  have i0 : ∀ w, (Instr.index 110 (.agg #[.string ⟨#[115, 101, 108, 101, 99, 116]⟩, .string ⟨#[112, 111, 108, 108]⟩, .string ⟨#[101, 112, 111, 108, 108]⟩, .string ⟨#[107, 113, 117, 101, 117, 101]⟩, .string ⟨#[]⟩, .string ⟨#[]⟩]) (.int .i64 0)).run Tryd.prog w = .ok (.string ⟨#[115, 101, 108, 101, 99, 116]⟩) w := fun _ => by kernel_rfl
  have i1 : ∀ w, (Instr.index 110 (.agg #[.string ⟨#[115, 101, 108, 101, 99, 116]⟩, .string ⟨#[112, 111, 108, 108]⟩, .string ⟨#[101, 112, 111, 108, 108]⟩, .string ⟨#[107, 113, 117, 101, 117, 101]⟩, .string ⟨#[]⟩, .string ⟨#[]⟩]) (.int .i64 1)).run Tryd.prog w = .ok (.string ⟨#[112, 111, 108, 108]⟩) w := fun _ => by kernel_rfl
  have i2 : ∀ w, (Instr.index 110 (.agg #[.string ⟨#[115, 101, 108, 101, 99, 116]⟩, .string ⟨#[112, 111, 108, 108]⟩, .string ⟨#[101, 112, 111, 108, 108]⟩, .string ⟨#[107, 113, 117, 101, 117, 101]⟩, .string ⟨#[]⟩, .string ⟨#[]⟩]) (.int .i64 2)).run Tryd.prog w = .ok (.string ⟨#[101, 112, 111, 108, 108]⟩) w := fun _ => by kernel_rfl
  have i3 : ∀ w, (Instr.index 110 (.agg #[.string ⟨#[115, 101, 108, 101, 99, 116]⟩, .string ⟨#[112, 111, 108, 108]⟩, .string ⟨#[101, 112, 111, 108, 108]⟩, .string ⟨#[107, 113, 117, 101, 117, 101]⟩, .string ⟨#[]⟩, .string ⟨#[]⟩]) (.int .i64 3)).run Tryd.prog w = .ok (.string ⟨#[107, 113, 117, 101, 117, 101]⟩) w := fun _ => by kernel_rfl
  have i4 : ∀ w, (Instr.index 110 (.agg #[.string ⟨#[115, 101, 108, 101, 99, 116]⟩, .string ⟨#[112, 111, 108, 108]⟩, .string ⟨#[101, 112, 111, 108, 108]⟩, .string ⟨#[107, 113, 117, 101, 117, 101]⟩, .string ⟨#[]⟩, .string ⟨#[]⟩]) (.int .i64 4)).run Tryd.prog w = .ok (.string ⟨#[]⟩) w := fun _ => by kernel_rfl
  have i5 : ∀ w, (Instr.index 110 (.agg #[.string ⟨#[115, 101, 108, 101, 99, 116]⟩, .string ⟨#[112, 111, 108, 108]⟩, .string ⟨#[101, 112, 111, 108, 108]⟩, .string ⟨#[107, 113, 117, 101, 117, 101]⟩, .string ⟨#[]⟩, .string ⟨#[]⟩]) (.int .i64 5)).run Tryd.prog w = .ok (.string ⟨#[]⟩) w := fun _ => by kernel_rfl
  go_enter Tryd.func56, Tryd.ntmps56
  go_wp2
  go_loop [3, 9] (fun n i => ∃ k : Nat, k ≤ 6 ∧ i = .int .i64 k ∧ n = .int .i64 (min k 4 : Nat)) (fun _ i => 6 - (intOf i).toNat)
  case atStart => exact ⟨0, by omega, rfl, rfl⟩
  case round =>
    obtain ⟨k, hk, rfl, rfl⟩ := hrel
    rcases (show k = 0 ∨ k = 1 ∨ k = 2 ∨ k = 3 ∨ k = 4 ∨ k = 5 ∨ k = 6 by omega) with rfl | rfl | rfl | rfl | rfl | rfl | rfl
    all_goals go_wp2
    all_goals first
      | (go_round
         case rel => first | exact ⟨1, by omega, rfl, rfl⟩ | exact ⟨2, by omega, rfl, rfl⟩ | exact ⟨3, by omega, rfl, rfl⟩ | exact ⟨4, by omega, rfl, rfl⟩ | exact ⟨5, by omega, rfl, rfl⟩ | exact ⟨6, by omega, rfl, rfl⟩
         case measure => simp [intOf])
      | (go_ret
         exact ⟨rfl, rfl⟩)
end Go.Proofs.YtbanfkpfijcmcaaDoor.Fl
