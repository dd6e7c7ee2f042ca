/- The walk of FlagAsks; the tables that the row lists. -/
import Derived.Test.YtojempihchlgfaaDoorC
import Derived.LaidMore
import Derived.Stop.Joined
namespace Go.Proofs.YtojempihchlgfaaDoor
open Go.ChangeShapes Go.WideShapes Go.ChangeAt Go.WideMaps Go.WideElems Go.RowKit
set_option linter.unusedSimpArgs false
set_option linter.unusedVariables false

set_option maxHeartbeats 1000000 in
theorem asks_walk (m p q : Int) (w : World) (hw : Wd w) (p0 : 0 ≤ p) (p1 : p ≤ 255) (q0 : 0 ≤ q) (q1 : q ≤ 255) :
    Calls Tryd.prog 3 #[.int .i64 m, .int .u8 p, .int .u8 q] w fun e w' => e = .returned (.bool true) ∧ Below w.heap.size w w' := by
  have a0 : 0 ≤ p % 64 := by omega
  have a1 : p % 64 < 64 := by omega
  have b0 : 0 ≤ q % 64 := by omega
  have b1 : q % 64 < 64 := by omega
  generalize hp : p % 64 = p' at *
  generalize hq : q % 64 = q' at *
  have HW := Lib.hid hw; clear hw
  have R := Lib.hid (ready_same p' q' a0 a1 b0 b1)
  by_cases hm : 0 ≤ m ∧ m < 64
  · obtain ⟨m0, m1⟩ := hm
    have S := Lib.hid (may_same m m0 m1)
    go_enter Tryd.func3, Tryd.ntmps3
    go_wp2_with (first
      | (go_at_call 10; refine (may_f m _ HW.out m0 m1).mono ?_; rintro e w' ⟨rfl, rfl⟩; rw [S.out])
      | (go_at_call 11; refine (rmay_in m _ m0 m1).mono ?_; rintro e w' ⟨rfl, rfl⟩)
      | (go_at_call 12; refine (ready_f p' q' _ a0 a1 b0 b1).mono ?_; rintro e w' ⟨rfl, rfl⟩; rw [R.out])
      | (go_at_call 13; refine (rready_in p' q' _ a0 a1 b0 b1).mono ?_; rintro e w' ⟨rfl, rfl⟩))
    go_ret
    exact ⟨rfl, Below.refl _ _⟩
  · have hm' : m < 0 ∨ 64 ≤ m := by omega
    have HM := Lib.hid hm'; clear hm hm'
    go_enter Tryd.func3, Tryd.ntmps3
    go_wp2_with (first
      | (go_at_call 10; refine (may_out m _ HW.out HM.out).mono ?_; rintro e w' ⟨rfl, rfl⟩)
      | (go_at_call 11; refine (rmay_out m _ HM.out).mono ?_; rintro e w' ⟨rfl, rfl⟩)
      | (go_at_call 12; refine (ready_f p' q' _ a0 a1 b0 b1).mono ?_; rintro e w' ⟨rfl, rfl⟩; rw [R.out])
      | (go_at_call 13; refine (rready_in p' q' _ a0 a1 b0 b1).mono ?_; rintro e w' ⟨rfl, rfl⟩))
    go_ret
    exact ⟨rfl, Below.refl _ _⟩

theorem asks_top (m p q : Int) (w : World) (hw : Wd w) (_ : (Lit.int .i64 m).wf = true) (hp : (Lit.int .u8 p).wf = true) (hq : (Lit.int .u8 q).wf = true) :
    Calls Tryd.prog 3 #[.int .i64 m, .int .u8 p, .int .u8 q] w fun e w' => e = .returned (.bool true) ∧ Below w.heap.size w w' :=
  asks_walk m p q w hw (bd_u8 hp).1 (bd_u8 hp).2 (bd_u8 hq).1 (bd_u8 hq).2

theorem gWords : Tryd.prog.globalNamed "roundhouse/flag.words" = some 1 := by kernel_rfl
theorem tWords : (Tryd.prog.globals[1]?).map (·.type) = some 49 := by kernel_rfl
theorem cells9 : Tryd.prog.cellsOf 9 = 1 := by kernel_rfl
theorem cells48 : Tryd.prog.cellsOf 48 = 6 := by kernel_rfl
theorem cells49 : Tryd.prog.cellsOf 49 = 18 := by kernel_rfl

section
variable {H : Type} {enc : TypeId × Value → H} {w : World} {base : Nat} {spare : Nat → Bool} {held : Bool}
/-- Six strings. -/
theorem open_six {n : Nat} {cs : List Value} {x : DataW H × List MemPlace} (l : List (List UInt8)) (h : DataW.trod enc Tryd.prog w base spare held n 48 cs = some x) (hx : x.1 = .agg (l.map fun b => .lit (.string b))) :
    ∀ j, j < 6 → cs[j]? = some (.string ⟨(l.getD j []).toArray⟩) := by
  obtain ⟨ys, m, _, rfl, hlen, hyl, hg⟩ := DataW.trod_array Tryd.underlying48 h
  rw [cells48] at hlen
  intro j hj
  have hjy : j < ys.length := by omega
  have h1 := hg j hj
  rw [List.getElem?_eq_getElem hjy, cells9, Nat.mul_one] at h1
  obtain ⟨s, hs, hy, _⟩ := DataW.trod_string Tryd.underlying9 h1
  simp only [DataW.agg.injEq] at hx
  have h2 : (ys.map (·.1))[j]? = some ys[j].1 := by rw [List.getElem?_map, List.getElem?_eq_getElem hjy]; rfl
  rw [hx, List.getElem?_map] at h2
  have hjc : j < cs.length := by omega
  have h3 : (cs.drop j).take 1 = [cs[j]] := by rw [List.drop_eq_getElem_cons hjc]; rfl
  rw [h3] at hs
  have h4 : cs[j] = .string s := by simpa using hs
  rw [List.getElem?_eq_getElem hjc, h4]
  cases hl : l[j]? with
  | none => rw [hl] at h2; simp at h2
  | some b =>
    rw [hl, hy] at h2
    simp at h2
    rw [List.getD, hl, Option.getD_some, h2]
end

def tab : List (List (List UInt8)) := [[[116, 105, 109, 101, 111, 117, 116], [114, 101, 97, 100], [119, 114, 105, 116, 101], [115, 105, 103, 110, 97, 108], [112, 101, 114, 115, 105, 115, 116], [101, 100, 103, 101]], [[101, 100, 103, 101], [98, 105, 103], [115, 105, 103, 110, 97, 108, 115], [99, 104, 97, 110, 103, 101, 115], [], []], [[115, 101, 108, 101, 99, 116], [112, 111, 108, 108], [101, 112, 111, 108, 108], [107, 113, 117, 101, 117, 101], [], []]]

theorem wl_tab (i : Nat) (h : i < 18) : wl.getD i ByteArray.empty = ⟨((tab.getD (i / 6) []).getD (i % 6) []).toArray⟩ := by
  rcases (show i = 0 ∨ i = 1 ∨ i = 2 ∨ i = 3 ∨ i = 4 ∨ i = 5 ∨ i = 6 ∨ i = 7 ∨ i = 8 ∨ i = 9 ∨ i = 10 ∨ i = 11 ∨ i = 12 ∨ i = 13 ∨ i = 14 ∨ i = 15 ∨ i = 16 ∨ i = 17 by omega) with rfl | rfl | rfl | rfl | rfl | rfl | rfl | rfl | rfl | rfl | rfl | rfl | rfl | rfl | rfl | rfl | rfl | rfl <;> rfl

theorem of_laid {W : World} (h : laidMetH Tryd.prog Rows.flagAsksRow.laid W) : Wd W := by
  rw [MakeChecks.laidMetH_plain _ _ _ (by kernel_rfl)] at h
  obtain ⟨ps, ⟨g0, t0, cs0, f0, p0, q0, hg0, ht0, hv0, hd0, _, _⟩, _, _⟩ := h
  obtain rfl := Option.some.inj (gWords.symm.trans hg0)
  obtain rfl := Option.some.inj (tWords.symm.trans ht0)
  obtain ⟨xs, m, _, hx, hlen, hxl, hg⟩ := DataW.trod_array Tryd.underlying49 hd0
  rw [cells49] at hlen
  simp only [Prod.mk.injEq, Rows.laid_roundhouse_flag_words, DataW.agg.injEq] at hx
  have hx1 := hx.1
  have key : ∀ a j, a < 3 → j < 6 → cs0.toList[a * 6 + j]? = some (.string ⟨((tab.getD a []).getD j []).toArray⟩) := by
    intro a j ha hj
    have hax : a < xs.length := by omega
    have h1 := hg a ha
    rw [List.getElem?_eq_getElem hax, cells48] at h1
    have h2 : (xs.map (·.1))[a]? = some xs[a].1 := by rw [List.getElem?_map, List.getElem?_eq_getElem hax]; rfl
    have h3 : xs[a].1 = .agg ((tab.getD a []).map fun b => .lit (.string b)) := by
      rw [← hx1] at h2
      rcases (show a = 0 ∨ a = 1 ∨ a = 2 by omega) with rfl | rfl | rfl <;> exact (Option.some.inj h2).symm
    have h4 := open_six _ h1 h3 j hj
    rw [List.getElem?_take, if_pos hj, List.getElem?_drop] at h4
    exact h4
  intro i hi
  have h5 := World.var?_cell hg0 hv0 i
  have h6 := key (i / 6) (i % 6) (by omega) (by omega)
  rw [show i / 6 * 6 + i % 6 = i by omega] at h6
  rw [h5, wl_tab i hi, ← h6, Array.getElem?_toList]
end Go.Proofs.YtojempihchlgfaaDoor
