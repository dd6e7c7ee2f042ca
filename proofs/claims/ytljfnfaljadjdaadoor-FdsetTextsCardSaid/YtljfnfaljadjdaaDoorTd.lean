/- The reference's digits. -/
import Derived.Test.YtljfnfaljadjdaaDoorTp
namespace Go.Proofs.YtljfnfaljadjdaaDoor
open Go.RowKit Go.Op Instr
set_option linter.unusedSimpArgs false
set_option linter.unusedVariables false
set_option maxRecDepth 100000

theorem str_one (w : World) (x : Int) : (convert 71 9 (.slice (some ⟨w.heap.size, 0, none⟩) 1 1)).run Tryd.prog (w.alloc (.cells #[.int .u8 x] 5)) = .ok (.string (strOfNums [x])) (w.alloc (.cells #[.int .u8 x] 5)) :=
  run_convert_bytes_arg _ 71 5 Tryd.underlying71 Tryd.underlying5 w.heap.size 0 1 1 [x] rfl (fun i hi => by
    obtain rfl : i = 0 := by simp at hi; omega
    have : (w.alloc (.cells #[.int .u8 x] 5)).heap[w.heap.size]? = some (.cells #[.int .u8 x] 5) := World.alloc_heap_new w _
    unfold World.cell?
    simp only [this]
    rfl) 9 Tryd.underlying9
theorem dig_bytes : ∀ k : Fin 64, digB k.val = if k.val < 10 then strOfNums [48 + (k.val : Int) % 10] else strOfNums [48 + (k.val : Int) / 10] ++ strOfNums [48 + (k.val : Int) % 10] := by decide +kernel
set_option maxHeartbeats 1000000 in
theorem digits_one (n : Nat) (w : World) (hn : n < 10) :
    Calls Tryd.prog 40 #[.int .i64 n] w fun e w' => e = .returned (.string (digB n)) ∧ Below w.heap.size w w' := by
  have hb := dig_bytes ⟨n, by omega⟩
  simp only [if_pos hn] at hb
  have HB := Lib.hid hb; clear hb
  have B := Lib.hid ((Below.refl _ w).alloc (Nat.le_refl _) (.cells #[.int .u8 (48 + (n : Int) % 10)] 5))
  have c := str_one w (48 + (n : Int) % 10)
  generalize hs : strOfNums [48 + (n : Int) % 10] = s at c HB
  clear hs
  go_enter Tryd.func40, Tryd.ntmps40
  go_wp2_with fail
  go_ret
  exact ⟨by rw [HB.out]; rfl, B.out⟩
theorem one_size (x : Int) : (strOfNums [x]).size = 1 := by rfl
set_option maxHeartbeats 1000000 in
theorem digits_two (n : Nat) (w : World) (hn : ¬ n < 10) (hn2 : n < 64) :
    Calls Tryd.prog 40 #[.int .i64 n] w fun e w' => e = .returned (.string (digB n)) ∧ Below w.heap.size w w' := by
  have hb := dig_bytes ⟨n, by omega⟩
  simp only [if_neg hn] at hb
  have HB := Lib.hid hb; clear hb
  have B := Lib.hid (((Below.refl _ w).alloc (Nat.le_refl _) (.cells #[.int .u8 (48 + (n : Int) % 10)] 5)).alloc (by simp) (.cells #[.int .u8 (48 + (n : Int) / 10)] 5))
  have c := str_one w (48 + (n : Int) % 10)
  have d := str_one (w.alloc (.cells #[.int .u8 (48 + (n : Int) % 10)] 5)) (48 + (n : Int) / 10)
  have z1 := one_size (48 + (n : Int) % 10)
  have z2 := one_size (48 + (n : Int) / 10)
  generalize hs : strOfNums [48 + (n : Int) % 10] = s at c HB z1
  generalize ht : strOfNums [48 + (n : Int) / 10] = t at d HB z2
  clear hs ht
  rw [World.size_alloc] at d
  go_enter Tryd.func40, Tryd.ntmps40
  go_wp2_with fail
  go_ret
  exact ⟨by rw [HB.out]; rfl, B.out⟩
theorem digits_any (n : Nat) (w : World) (hn : n < 64) :
    Calls Tryd.prog 40 #[.int .i64 n] w fun e w' => e = .returned (.string (digB n)) ∧ Below w.heap.size w w' := by
  by_cases h : n < 10
  · exact digits_one n w h
  · exact digits_two n w h hn
end Go.Proofs.YtljfnfaljadjdaaDoor
