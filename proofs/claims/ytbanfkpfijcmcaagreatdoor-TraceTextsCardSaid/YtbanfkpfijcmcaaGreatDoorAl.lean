/- few, alive. -/
import Derived.Test.YtbanfkpfijcmcaaGreatDoorTx
import Derived.Lib.SlBytesConst
namespace Go.Proofs.YtbanfkpfijcmcaaGreatDoor
open Go.RowKit Go.Op Instr
set_option linter.unusedSimpArgs false
set_option linter.unusedVariables false
set_option maxRecDepth 100000

def fewL : List En := [⟨1, 5, 0, 0, 0, 0, []⟩, ⟨2, 5, 3, 18, 0, 0, []⟩, ⟨3, 5, 3, 0, 2, 113, [97]⟩, ⟨4, 9, 0, 0, 1, 0, []⟩]
theorem few_ok : ∀ x ∈ fewL, EnOk x := by
  intro x hx
  simp only [fewL, List.mem_cons, List.not_mem_nil, or_false] at hx
  rcases hx with rfl | rfl | rfl | rfl <;> exact ⟨by unfold i64ok; decide, by decide, by unfold i64ok; decide, by unfold i64ok; decide, by unfold i64ok; decide, by unfold i64ok; decide⟩
theorem few_check : checkF fewL = true := by decide +kernel
theorem few_text : textF fewL = [116, 117, 114, 110, 32, 53, 32, 48, 10, 114, 117, 110, 32, 53, 32, 51, 32, 114, 101, 97, 100, 43, 112, 101, 114, 115, 105, 115, 116, 32, 48, 10, 100, 105, 100, 32, 53, 32, 51, 32, 50, 32, 49, 49, 51, 32, 54, 49, 10, 101, 110, 100, 32, 57, 32, 49, 32, 48, 10] := by decide +kernel
def fewV : List Value := [.int .i64 1, .int .u64 5, .int .i64 0, .int .i64 0, .int .i64 0, .int .i64 0, .slice none 0 0]

set_option maxHeartbeats 4000000 in
theorem few_any (w : World) : Calls Tryz.prog 8 #[] w fun e w' => ∃ v, e = .returned v ∧ Rd w' v fewL ∧ Below w.heap.size w w' := by
  have kc := fun (w : World) (C : Array Value) (n c : Nat) => Lib.run_convert_bytes_const (P := Tryz.prog) w 26 5 C n c Tryz.underlying26 Tryz.underlying5
  have K : Hid (Rd ((w.alloc (.cells #[.int .u8 97] 5 (1, 2))).alloc (.cells #[.int .i64 1, .int .u64 5, .int .i64 0, .int .i64 0, .int .i64 0, .int .i64 0, .slice none 0 0, .int .i64 2, .int .u64 5, .int .i64 3, .int .i64 18, .int .i64 0, .int .i64 0, .slice none 0 0, .int .i64 3, .int .u64 5, .int .i64 3, .int .i64 0, .int .i64 2, .int .i64 113, .slice (some ⟨w.heap.size, 0, none⟩) 1 1, .int .i64 4, .int .u64 9, .int .i64 0, .int .i64 0, .int .i64 1, .int .i64 0, .slice none 0 0] 28)) (.slice (some ⟨w.heap.size + 1, 0, none⟩) 4 4) fewL) := Lib.hid (by
    have hs : (w.alloc (.cells #[.int .u8 97] 5 (1, 2))).heap.size = w.heap.size + 1 := by simp
    have h1 := new_block w (.cells #[.int .u8 97] 5 (1, 2))
    generalize w.alloc (.cells #[.int .u8 97] 5 (1, 2)) = W1 at *
    have h2 := new_block W1 (.cells #[.int .i64 1, .int .u64 5, .int .i64 0, .int .i64 0, .int .i64 0, .int .i64 0, .slice none 0 0, .int .i64 2, .int .u64 5, .int .i64 3, .int .i64 18, .int .i64 0, .int .i64 0, .slice none 0 0, .int .i64 3, .int .u64 5, .int .i64 3, .int .i64 0, .int .i64 2, .int .i64 113, .slice (some ⟨w.heap.size, 0, none⟩) 1 1, .int .i64 4, .int .u64 9, .int .i64 0, .int .i64 0, .int .i64 1, .int .i64 0, .slice none 0 0] 28)
    rw [hs] at h2
    have h3 := (Below.heap_alloc W1 (.cells #[.int .i64 1, .int .u64 5, .int .i64 0, .int .i64 0, .int .i64 0, .int .i64 0, .slice none 0 0, .int .i64 2, .int .u64 5, .int .i64 3, .int .i64 18, .int .i64 0, .int .i64 0, .slice none 0 0, .int .i64 3, .int .u64 5, .int .i64 3, .int .i64 0, .int .i64 2, .int .i64 113, .slice (some ⟨w.heap.size, 0, none⟩) 1 1, .int .i64 4, .int .u64 9, .int .i64 0, .int .i64 0, .int .i64 1, .int .i64 0, .slice none 0 0] 28) w.heap.size (by omega)).trans h1
    generalize W1.alloc (.cells _ 28) = W2 at *
    have hd : DataAt W2 (.slice (some ⟨w.heap.size, 0, none⟩) 1 1) [97] := by
      refine ⟨_, 1, rfl, Nat.le_refl _, by unfold maxLen; omega, fun h => (by cases h), fun _ => ⟨w.heap.size, 0, rfl, lt_of_block h3, fun j u hj => ?_⟩⟩
      cases j with
      | zero => simp at hj; subst hj; unfold World.cell?; rw [h3]; rfl
      | succ j => simp at hj
    refine ⟨_, 4, rfl, by decide, by unfold maxLen; omega, fun k hk => ?_⟩
    have key : ∀ (W : World) (hW : Below W2.heap.size W2 W) (j : Nat), W.cell? ⟨w.heap.size + 1, j, none⟩ = #[Value.int .i64 1, .int .u64 5, .int .i64 0, .int .i64 0, .int .i64 0, .int .i64 0, .slice none 0 0, .int .i64 2, .int .u64 5, .int .i64 3, .int .i64 18, .int .i64 0, .int .i64 0, .slice none 0 0, .int .i64 3, .int .u64 5, .int .i64 3, .int .i64 0, .int .i64 2, .int .i64 113, .slice (some ⟨w.heap.size, 0, none⟩) 1 1, .int .i64 4, .int .u64 9, .int .i64 0, .int .i64 0, .int .i64 1, .int .i64 0, .slice none 0 0][j]? := fun W hW j => (cell_of ((hW.block _ (lt_of_block h2)).trans h2) j).1
    have hk4 : k < 4 := hk
    match k, hk4 with
    | 0, _ => exact ⟨⟨⟨1, 5, 0, 0, 0, 0, []⟩, .slice none 0 0⟩, _, 0, rfl, rfl, data_nil _, fun W hW => ⟨key W hW 0, key W hW 1, key W hW 2, key W hW 3, key W hW 4, key W hW 5, key W hW 6⟩⟩
    | 1, _ => exact ⟨⟨⟨2, 5, 3, 18, 0, 0, []⟩, .slice none 0 0⟩, _, 0, rfl, rfl, data_nil _, fun W hW => ⟨key W hW 7, key W hW 8, key W hW 9, key W hW 10, key W hW 11, key W hW 12, key W hW 13⟩⟩
    | 2, _ => exact ⟨⟨⟨3, 5, 3, 0, 2, 113, [97]⟩, .slice (some ⟨w.heap.size, 0, none⟩) 1 1⟩, _, 0, rfl, rfl, hd, fun W hW => ⟨key W hW 14, key W hW 15, key W hW 16, key W hW 17, key W hW 18, key W hW 19, key W hW 20⟩⟩
    | 3, _ => exact ⟨⟨⟨4, 9, 0, 0, 1, 0, []⟩, .slice none 0 0⟩, _, 0, rfl, rfl, data_nil _, fun W hW => ⟨key W hW 21, key W hW 22, key W hW 23, key W hW 24, key W hW 25, key W hW 26, key W hW 27⟩⟩)
  have B := Lib.hid (((Below.refl _ w).alloc (Nat.le_refl _) (.cells #[.int .u8 97] 5 (1, 2))).alloc (by simp) (.cells #[.int .i64 1, .int .u64 5, .int .i64 0, .int .i64 0, .int .i64 0, .int .i64 0, .slice none 0 0, .int .i64 2, .int .u64 5, .int .i64 3, .int .i64 18, .int .i64 0, .int .i64 0, .slice none 0 0, .int .i64 3, .int .u64 5, .int .i64 3, .int .i64 0, .int .i64 2, .int .i64 113, .slice (some ⟨w.heap.size, 0, none⟩) 1 1, .int .i64 4, .int .u64 9, .int .i64 0, .int .i64 0, .int .i64 1, .int .i64 0, .slice none 0 0] 28))
  go_enter Tryz.func8, Tryz.ntmps8
  go_wp2_with fail
  go_ret
  exact ⟨_, rfl, K.out, B.out⟩
set_option maxHeartbeats 4000000 in
theorem alive_any (w : World) (hE : Ev w) : Calls Tryz.prog 9 #[] w fun e w' => e = .returned (.bool true) ∧ Below w.heap.size w w' := by
  have HF := Lib.hid (few_any w)
  have HT := Lib.hid (fun W v (hW : Below w.heap.size w W) (hr : Rd W v fewL) => text_any W v fewL hr (hE.below hW) (by unfold maxLen; decide) few_ok)
  rw [few_check, few_text] at HT
  clear hE
  go_enter Tryz.func9, Tryz.ntmps9
  go_wp2_with fail
  refine HF.out.mono ?_
  rintro e w1 ⟨v, rfl, hr, b1⟩
  have B1 := Lib.hid b1
  have HT2 := Lib.hid (HT.out w1 v b1 hr)
  clear b1 hr HT HF
  simp only [if_true, errV] at HT2
  go_wp2_with fail
  refine HT2.out.mono ?_
  rintro e w2 ⟨rfl, b2⟩
  have B2 := Lib.hid (B1.out.trans (b2.mono B1.out.size))
  clear b2
  go_wp2_with fail
  go_ret
  exact ⟨rfl, B2.out⟩
end Go.Proofs.YtbanfkpfijcmcaaGreatDoor
