/- Lists of numbers: list, in, Of, Some, Same. -/
import Derived.Test.YtljfnfaljadjdaaDoorA
namespace Go.Proofs.YtljfnfaljadjdaaDoor
open Go.RowKit
set_option linter.unusedSimpArgs false
set_option linter.unusedVariables false

theorem info3 : (Tryd.prog.info? 3).map (fun i => (i.zero, i.size, i.bytes)) = some (some (.int .i64 0), 1, 8) := by kernel_rfl

/-- A call that hands back a list of numbers, in memory of its own or none. -/
def RetL (l : List Int) (w : World) (e : Ending) (w' : World) : Prop := ∃ A c, e = .returned (.slice A l.length c) ∧ l.length ≤ c ∧ Ints .i64 w' A l ∧ Below w.heap.size w w'

/-- Block g is a set. -/
def Sb (w : World) (g a b : Nat) : Prop := w.heap[g]? = some (.cells #[.int .u32 a, .int .u32 b] 24 (0, 0))
theorem Sb.cells {w : World} {g a b : Nat} (h : Sb w g a b) : w.cell? ⟨g, 0, none⟩ = some (.int .u32 a) ∧ w.cell? ⟨g, 1, none⟩ = some (.int .u32 b) := by
  unfold Sb at h; simp [World.cell?, h]
theorem Sb.new (w : World) (a b : Nat) : Sb (w.alloc (.cells #[.int .u32 a, .int .u32 b] 24)) w.heap.size a b := by
  show (w.heap.push _)[w.heap.size]? = _; simp
theorem Sb.below {w w' : World} {g a b B : Nat} (h : Sb w g a b) (hb : Below B w w') (hl : g < B) : Sb w' g a b := (hb.block g hl).trans h
theorem Sb.lt {w : World} {g a b : Nat} (h : Sb w g a b) : g < w.heap.size := lt_of_block h

/-- What the building of a list keeps. -/
structure Build (w wr : World) (base : Nat) (v : Value) (l : List Int) : Prop where
  row : wr.ownsRow base 3 1 v l.length (l.map (Value.int .i64))
  sz : base ≤ wr.heap.size
  bel : Below base w wr

theorem Build.later {w wr w1 : World} {base : Nat} {v : Value} {l : List Int} (h : Build w wr base v l) (hb : Below wr.heap.size wr w1) : Build w w1 base v l :=
  ⟨h.row.kept (grown_of_below hb none) (by cases hv : v.ownBlock <;> simp), Nat.le_trans h.sz hb.size, h.bel.trans (hb.mono h.sz)⟩
theorem Build.put {w wr w1 : World} {base : Nat} {v v' : Value} {l : List Int} {x : Int} {o : Obj} (h : Build w wr base v l) (hr : w1.ownsRow base 3 1 v' (l.length + 1) (l.map (Value.int .i64) ++ [.int .i64 x])) (g : (wr.alloc o).grownBy w1 v.ownBlock) : Build w w1 base v' (l ++ [x]) :=
  ⟨by simpa using hr, Nat.le_trans h.sz (Nat.le_trans (by simp) g.size), below_append h.bel h.row g (Nat.le_refl _) h.sz⟩
theorem Build.ret {w wr : World} {base : Nat} {v : Value} {l : List Int} (h : Build w wr base v l) (hB : w.heap.size ≤ base) : RetL l w (.returned v) wr := by
  obtain ⟨A, c, rfl, hc⟩ := row_form h.row
  exact ⟨A, c, rfl, hc, row_ints h.row, h.bel.mono hB⟩

set_option maxHeartbeats 1000000 in
theorem list_any (a b : Nat) (w : World) (ha : a < 4294967296) (hb : b < 4294967296) :
    Calls Tryd.prog 27 #[.agg #[.int .u32 a, .int .u32 b]] w (RetL (lst (hasN a b) 64) w) := by
  obtain ⟨i3, hi3, hz3, hs3, hy3⟩ := info_parts info3
  have I3 := Lib.hid hi3; have Z3 := Lib.hid hz3; have S3 := Lib.hid hs3; have Y3 := Lib.hid hy3
  clear hi3 hz3 hs3 hy3
  obtain ⟨w0, hw0⟩ : ∃ w0, w0 = w.alloc (.cells #[.int .u32 a, .int .u32 b] 24) := ⟨_, rfl⟩
  have sb : Sb w0 w.heap.size a b := by rw [hw0]; exact Sb.new w a b
  have bw : Below w.heap.size w w0 := by rw [hw0]; exact (Below.refl _ _).alloc (Nat.le_refl _) _
  have sz0 : w0.heap.size = w.heap.size + 1 := by rw [hw0]; simp
  have SZ := Lib.hid sz0
  have hlt0 : w.heap.size < w0.heap.size := by omega
  have HW := Lib.hid hw0
  clear sz0
  have T0 : Build w0 w0 w0.heap.size (.slice none 0 0) [] := ⟨World.ownsRow_nil _ _ _ _, Nat.le_refl _, Below.refl _ _⟩
  go_enter Tryd.func27, Tryd.ntmps27
  go_wp2_with fail
  rw [← HW.out]
  clear hw0 HW
  go_loopw [3, 4] (fun v i wr => ∃ m : Int, -1 ≤ m ∧ m ≤ 65 ∧ i = .int .i64 m ∧ Build w0 wr w0.heap.size v (lst (hasN a b) (if m ≤ 64 then m.toNat else 64))) (fun _ i _ => (65 - intOf i).toNat)
  case atStart => exact ⟨-1, by omega, by omega, rfl, T0⟩
  case round =>
    obtain ⟨m, m0, m1, rfl, T⟩ := hrel
    by_cases hle : m ≤ 64
    · rw [if_pos hle] at T
      obtain ⟨c0, c1⟩ := (sb.below T.bel hlt0).cells
      by_cases hin : 0 ≤ m ∧ m < 64
      · obtain ⟨hin0, hin1⟩ := hin
        have hmt : (m + 1).toNat = m.toNat + 1 := by omega
        have HMT := Lib.hid hmt; clear hmt
        have hlen := lst_len (hasN a b) m.toNat
        by_cases hp : hasN a b m.toNat = true
        · go_wp2_with fail
          refine (has_yes a b m _ ha hb hin0 hin1).mono ?_
          rintro e w1 ⟨he, b1⟩
          rw [hp] at he
          subst he
          have T1 := T.later b1
          clear b1 T
          go_wp2_with (at_builtin; refine wpList_append_own _ rfl (.tmp 12) (.tmp 14) 31 rfl w0.heap.size 3 i3 (.int .i64 0) 1 8 Tryd.underlying31 I3.out Z3.out S3.out Y3.out rfl (by decide) _ _ _ rfl (T1.row.alloc _) ⟨w1.heap.size, 0, none⟩ 1 1 [.int .i64 m] rfl rfl (cell_one_new _ _ _) (by simp [Value.oneCell']) (by unfold maxLen; omega) (by omega) (by have := T1.sz; simp; omega) ?_; intro v' w2 hown hgrow _; have T2 := T1.put hown hgrow; clear hown hgrow)
          go_roundw
          case rel => exact ⟨m + 1, by omega, by omega, rfl, by rw [if_pos (by omega), HMT.out, lst_yes _ _ hp, Int.toNat_of_nonneg hin0]; exact T2⟩
          case measure => simp [intOf]; omega
        · have hp' : hasN a b m.toNat = false := by simpa using hp
          clear hp
          go_wp2_with fail
          refine (has_yes a b m _ ha hb hin0 hin1).mono ?_
          rintro e w1 ⟨he, b1⟩
          rw [hp'] at he
          subst he
          have T1 := T.later b1
          clear b1 T
          go_wp2_with fail
          go_roundw
          case rel => exact ⟨m + 1, by omega, by omega, rfl, by rw [if_pos (by omega), HMT.out, lst_no _ _ hp']; exact T1⟩
          case measure => simp [intOf]; omega
      · have hin' : m < 0 ∨ 64 ≤ m := by omega
        have HIN := Lib.hid hin'; clear hin hin'
        go_wp2_with fail
        refine (has_no a b m _ HIN.out).mono ?_
        rintro e w1 ⟨rfl, b1⟩
        have T1 := T.later b1
        clear b1 T
        go_wp2_with fail
        go_roundw
        case rel => exact ⟨m + 1, by omega, by omega, rfl, by
            rcases HIN.out with h | h
            · rw [show m = -1 by omega] at T1 ⊢; exact T1
            · rw [show m = 64 by omega] at T1 ⊢; exact T1⟩
        case measure => simp [intOf]; omega
    · rw [if_neg hle] at T
      go_wp2_with fail
      go_ret
      obtain ⟨A, c, hv, hc, hi, hbel⟩ := T.ret (Nat.le_refl _)
      exact ⟨A, c, hv, hc, hi, bw.trans (hbel.mono (by omega))⟩
end Go.Proofs.YtljfnfaljadjdaaDoor
