/- A ring in memory; small functions; the iterator pieces. -/
import Derived.StillTailTactics
import Derived.Laws.AppendOwn
import Derived.Deep.RegionHeld3
import Derived.BigRegion
import Derived.RangeFuncFrom
import Derived.RangeFuncWrites
import Derived.Shelf.Abstract
import Derived.Shelf.RegionOpen
import Derived.OwnWalkIn
import Derived.TacticsInMore
import Derived.LoopNIn
import Derived.LoopIn
import Derived.WalkMore
import Derived.Maps.AppendAt
import Derived.Test.YtebnfcpikhehkaaRow
import Derived.Test.YtebnfcpikhehkaaS
import Derived.Test.YtebnfcpikhehkaaP
import Derived.Test.YtebnfcpikhehkaaQ
namespace Go.Proofs.Ytebnfcpikhehkaa
open Go.RowKit Go.Shelf
attribute [local go_sem] Oper.semAt_some
set_option linter.unusedSimpArgs false
set_option linter.unusedVariables false
set_option maxRecDepth 100000

theorem below_drewN {B : Nat} {a w : World} (h : Below B a w) (k : Nat) : Below B a (w.drewN k) := ⟨h.os, h.tape, h.output, h.size, h.block⟩
/-- Block g is a ring over block gb. -/
def Rk (w : World) (g gb C fr n : Nat) (ip op : Int) : Prop := w.heap[g]? = some (.cells #[.slice (some ⟨gb, 0, none⟩) C C, .int .i64 fr, .int .i64 n, .int .u64 ip, .int .u64 op, .bool true] 48 (0, 0))
/-- Block gb is a row of bytes. -/
def By (w : World) (gb : Nat) (cs : List Int) : Prop := w.heap[gb]? = some (.cells (cs.map (Value.int .u8)).toArray 5 (0, 0))
theorem Rk.cells {w : World} {g gb C fr n : Nat} {ip op : Int} (k : Rk w g gb C fr n ip op) :
    w.cell? ⟨g, 0, none⟩ = some (.slice (some ⟨gb, 0, none⟩) C C) ∧ w.cell? ⟨g, 1, none⟩ = some (.int .i64 fr) ∧ w.cell? ⟨g, 2, none⟩ = some (.int .i64 n) ∧ w.cell? ⟨g, 3, none⟩ = some (.int .u64 ip) ∧ w.cell? ⟨g, 4, none⟩ = some (.int .u64 op) ∧ w.cell? ⟨g, 5, none⟩ = some (.bool true) ∧
    w.frozen? ⟨g, 0, none⟩ = false ∧ w.frozen? ⟨g, 1, none⟩ = false ∧ w.frozen? ⟨g, 2, none⟩ = false ∧ w.frozen? ⟨g, 3, none⟩ = false ∧ w.frozen? ⟨g, 4, none⟩ = false := by
  unfold Rk at k
  simp [World.cell?, World.frozen?, k]
theorem Rk.lt {w : World} {g gb C fr n : Nat} {ip op : Int} (k : Rk w g gb C fr n ip op) : g < w.heap.size := (Array.getElem?_eq_some_iff.1 k).1
theorem By.lt {w : World} {gb : Nat} {cs : List Int} (k : By w gb cs) : gb < w.heap.size := (Array.getElem?_eq_some_iff.1 k).1

theorem none_no (g gb C fr n : Nat) (ip op : Int) (w : World) (k : Rk w g gb C fr n ip op) : Calls Try.prog 26 #[.pointer (some ⟨g, 0, none⟩)] w fun e w' => e = .returned (.bool false) ∧ w = w' := by
  obtain ⟨k0, k1, k2, k3, k4, k5, z0, z1, z2, z3, z4⟩ := k.cells
  clear k
  go_enter Try.func26, Try.ntmps26
  go_wp2
  go_ret
  exact ⟨rfl, rfl⟩
theorem none_yes (w : World) : Calls Try.prog 26 #[.pointer none] w fun e w' => e = .returned (.bool true) ∧ w = w' := by
  go_enter Try.func26, Try.ntmps26
  go_wp2
  go_ret
  exact ⟨rfl, rfl⟩
theorem len_any (g gb C fr n : Nat) (ip op : Int) (w : World) (k : Rk w g gb C fr n ip op) : Calls Try.prog 13 #[.pointer (some ⟨g, 0, none⟩)] w fun e w' => e = .returned (.int .i64 n) ∧ w = w' := by
  obtain ⟨k0, k1, k2, k3, k4, k5, z0, z1, z2, z3, z4⟩ := k.cells
  have K := Lib.hid k; clear k
  go_enter Try.func13, Try.ntmps13
  go_wp2_with (go_at_call 26; refine (none_no _ _ _ _ _ _ _ _ K.out).mono ?_; rintro e w' ⟨rfl, rfl⟩)
  go_ret
  exact ⟨rfl, rfl⟩
theorem room_any (g gb C fr n : Nat) (ip op : Int) (w : World) (k : Rk w g gb C fr n ip op) (hC : C ≤ 65536) (hn : n ≤ C) : Calls Try.prog 14 #[.pointer (some ⟨g, 0, none⟩)] w fun e w' => e = .returned (.int .i64 ((C - n : Nat) : Int)) ∧ Below w.heap.size w w' := by
  obtain ⟨k0, k1, k2, k3, k4, k5, z0, z1, z2, z3, z4⟩ := k.cells
  have K := Lib.hid k; clear k
  go_enter Try.func14, Try.ntmps14
  go_wp2_with (go_at_call 26; refine (none_no _ _ _ _ _ _ _ _ K.out).mono ?_; rintro e w' ⟨rfl, rfl⟩)
  go_quiet (fail)
  go_wp2
  go_ret
  exact ⟨by apply ret_int; omega, below_drewN (Below.refl _ _) _⟩
theorem counts_any (g gb C fr n : Nat) (ip op : Int) (w : World) (k : Rk w g gb C fr n ip op) : Calls Try.prog 16 #[.pointer (some ⟨g, 0, none⟩)] w fun e w' => e = .returned (.tuple #[.int .u64 ip, .int .u64 op]) ∧ Below w.heap.size w w' := by
  obtain ⟨k0, k1, k2, k3, k4, k5, z0, z1, z2, z3, z4⟩ := k.cells
  have K := Lib.hid k; clear k
  go_enter Try.func16, Try.ntmps16
  go_wp2_with (go_at_call 26; refine (none_no _ _ _ _ _ _ _ _ K.out).mono ?_; rintro e w' ⟨rfl, rfl⟩)
  go_quiet (fail)
  go_wp2
  go_ret2
  exact ⟨rfl, below_drewN (Below.refl _ _) _⟩
theorem new_bad (c : Int) (w : World) (h : c < 0 ∨ 65536 < c) : Calls Try.prog 10 #[.int .i64 c] w fun e w' => e = .returned (.tuple #[.pointer none, .int .i64 2]) ∧ w = w' := by
  rcases h with h | h
  · go_enter Try.func10, Try.ntmps10
    go_wp2
    go_ret2
    exact ⟨rfl, rfl⟩
  · have h0 : 0 ≤ c := by omega
    go_enter Try.func10, Try.ntmps10
    go_wp2
    go_ret2
    exact ⟨rfl, rfl⟩
theorem info5 : (Try.prog.info? 5).map (fun i => (i.zero, i.size, i.bytes)) = some (some (.int .u8 0), 1, 1) := by kernel_rfl
theorem made_bytes (C : Nat) : madeCells #[.int .u8 0] C = ((List.replicate C (0 : Int)).map (Value.int .u8)).toArray := by
  apply Array.ext_getElem?
  intro i
  simp [madeCells, Nat.mod_one]
  by_cases h : i < C
  · simp [h]
  · simp [h]
theorem make_run (C : Nat) (h : C ≤ 65536) (w : World) : (Instr.makeSlice 22 (.int .i64 C) (.int .i64 C)).run Try.prog w = .ok (.slice (some ⟨w.heap.size, 0, none⟩) C C) (w.alloc (.cells ((List.replicate C (0 : Int)).map (Value.int .u8)).toArray 5)) := by
  obtain ⟨i5, hi5, hz5, hs5, hy5⟩ := info_parts info5
  have := run_make (P := Try.prog) w 22 5 i5 (.int .u8 0) Try.underlying22 hi5 hz5 .i64 .i64 C C (by omega) (Int.le_refl _) (by rw [hy5]; omega) (by omega)
  rw [hs5, Int.toNat_natCast, Nat.mul_one] at this
  rw [this]
  congr 3
  exact made_bytes C
set_option maxHeartbeats 1000000 in
theorem new_ok (C : Nat) (w : World) (h : C ≤ 65536) : Calls Try.prog 10 #[.int .i64 C] w fun e w' => e = .returned (.tuple #[.pointer (some ⟨w.heap.size + 1, 0, none⟩), .int .i64 0]) ∧ Rk w' (w.heap.size + 1) w.heap.size C 0 0 0 0 ∧ By w' w.heap.size (List.replicate C 0) ∧ Below w.heap.size w w' := by
  have hmk := make_run C h
  generalize hL : ((List.replicate C (0 : Int)).map (Value.int .u8)).toArray = L at hmk
  have HL := Lib.hid hL; clear hL
  go_enter Try.func10, Try.ntmps10
  go_wp2
  go_ret2
  refine ⟨rfl, ?_, ?_, ?_⟩
  · have := World.alloc_heap_new (w.alloc (.cells L 5)) (.cells #[.slice (some ⟨w.heap.size, 0, none⟩) C C, .int .i64 0, .int .i64 0, .int .u64 0, .int .u64 0, .bool true] 48)
    rw [World.size_alloc] at this
    exact this
  · show _ = some (Obj.cells ((List.replicate C (0 : Int)).map (Value.int .u8)).toArray 5 (0, 0))
    rw [HL.out]
    exact (Below.heap_alloc _ _ _ (by simp)).trans (World.alloc_heap_new w _)
  · exact ((Below.refl _ w).alloc (Nat.le_refl _) _).alloc (by simp) _

def encP (gb C : Nat) (x : Nat × Nat) : Array Value := #[.slice (some ⟨gb, x.1, none⟩) x.2 (C - x.1)]
/-- What a round keeps of the iterator's. -/
def KR (bn bf br g : Nat) (A B : World) : Prop := B.heap[bn]? = A.heap[bn]? ∧ B.heap[bf]? = A.heap[bf]? ∧ B.heap[br]? = A.heap[br]? ∧ B.heap[g]? = A.heap[g]?
theorem KR.t {bn bf br g : Nat} {A B C : World} (h : KR bn bf br g A B) (k : KR bn bf br g B C) : KR bn bf br g A C := ⟨k.1.trans h.1, k.2.1.trans h.2.1, k.2.2.1.trans h.2.2.1, k.2.2.2.trans h.2.2.2⟩

theorem pieces_any (g : Nat) (fr n : Int) (w : World) : Calls Try.prog 25 #[.pointer (some ⟨g, 0, none⟩), .int .i64 fr, .int .i64 n] w fun e w' => e = .returned (.func (.func 27) #[] #[.pointer (some ⟨w.heap.size + 2, 0, none⟩), .pointer (some ⟨w.heap.size + 1, 0, none⟩), .pointer (some ⟨w.heap.size, 0, none⟩)]) ∧ w' = ((w.alloc (.cells #[.pointer (some ⟨g, 0, none⟩)] 24)).alloc (.cells #[.int .i64 fr] 3)).alloc (.cells #[.int .i64 n] 3) := by
  go_enter Try.func25, Try.ntmps25
  go_wp2
  go_ret
  exact ⟨rfl, rfl⟩

theorem wpIn_scope_wide {n : Nat} {P : Program} {Q : Exit → Act → World → Prop} {a : Act} {w : World} {c : Code} (h : c.wpIn Fence.wide n P (Exit.noGoto Q) a w) : (Code.scope c).wpIn Fence.wide n P Q a w := wpIn_wide.2 (wp_scope_straight (wpIn_wide.1 h))
end Go.Proofs.Ytebnfcpikhehkaa
