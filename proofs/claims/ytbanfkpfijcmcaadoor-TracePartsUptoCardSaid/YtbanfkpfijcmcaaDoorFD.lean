/- The walk of FlagAsks; the tables that the row lists. -/
import Derived.Test.YtbanfkpfijcmcaaDoorFA
import Derived.LaidMore
import Derived.Stop.Joined
namespace Go.Proofs.YtbanfkpfijcmcaaDoor.Fl
open Go.ChangeShapes Go.WideShapes Go.ChangeAt Go.WideMaps Go.WideElems Go.RowKit
set_option linter.unusedSimpArgs false
set_option linter.unusedVariables false

theorem gWords : Tryd.prog.globalNamed "roundhouse/flag.words" = some 1 := by kernel_rfl
theorem tWords : (Tryd.prog.globals[1]?).map (·.type) = some 111 := by kernel_rfl
theorem cells9 : Tryd.prog.cellsOf 9 = 1 := by kernel_rfl
theorem cells110 : Tryd.prog.cellsOf 110 = 6 := by kernel_rfl
theorem cells111 : Tryd.prog.cellsOf 111 = 18 := by kernel_rfl

section
variable {H : Type} {enc : TypeId × Value → H} {w : World} {base : Nat} {spare : Nat → Bool} {held : Bool}
/-- Six strings. -/
theorem open_six {n : Nat} {cs : List Value} {x : DataW H × List MemPlace} (l : List (List UInt8)) (h : DataW.trod enc Tryd.prog w base spare held n 110 cs = some x) (hx : x.1 = .agg (l.map fun b => .lit (.string b))) :
    ∀ j, j < 6 → cs[j]? = some (.string ⟨(l.getD j []).toArray⟩) := by
  obtain ⟨ys, m, _, rfl, hlen, hyl, hg⟩ := DataW.trod_array Tryd.underlying110 h
  rw [cells110] at hlen
  intro j hj
  have hjy : j < ys.length := by omega
  have h1 := hg j hj
  rw [List.getElem?_eq_getElem hjy, cells9, Nat.mul_one] at h1
  obtain ⟨s, hs, hy, _⟩ := DataW.trod_string Tryd.underlying9 h1
  simp only [DataW.agg.injEq] at hx
  have h2 : (ys.map (·.1))[j]? = some ys[j].1 := by rw [List.getElem?_map, List.getElem?_eq_getElem hjy]; rfl
  rw [hx, List.getElem?_map] at h2
  have hjc : j < cs.length := by omega
  have h3 : (cs.drop j).take 1 = [cs[j]] := by rw [List.drop_eq_getElem_cons hjc]; rfl
  rw [h3] at hs
  have h4 : cs[j] = .string s := by simpa using hs
  rw [List.getElem?_eq_getElem hjc, h4]
  cases hl : l[j]? with
  | none => rw [hl] at h2; simp at h2
  | some b =>
    rw [hl, hy] at h2
    simp at h2
    rw [List.getD, hl, Option.getD_some, h2]
end

def tab : List (List (List UInt8)) := [[[116, 105, 109, 101, 111, 117, 116], [114, 101, 97, 100], [119, 114, 105, 116, 101], [115, 105, 103, 110, 97, 108], [112, 101, 114, 115, 105, 115, 116], [101, 100, 103, 101]], [[101, 100, 103, 101], [98, 105, 103], [115, 105, 103, 110, 97, 108, 115], [99, 104, 97, 110, 103, 101, 115], [], []], [[115, 101, 108, 101, 99, 116], [112, 111, 108, 108], [101, 112, 111, 108, 108], [107, 113, 117, 101, 117, 101], [], []]]

theorem wl_tab (i : Nat) (h : i < 18) : wl.getD i ByteArray.empty = ⟨((tab.getD (i / 6) []).getD (i % 6) []).toArray⟩ := by
  rcases (show i = 0 ∨ i = 1 ∨ i = 2 ∨ i = 3 ∨ i = 4 ∨ i = 5 ∨ i = 6 ∨ i = 7 ∨ i = 8 ∨ i = 9 ∨ i = 10 ∨ i = 11 ∨ i = 12 ∨ i = 13 ∨ i = 14 ∨ i = 15 ∨ i = 16 ∨ i = 17 by omega) with rfl | rfl | rfl | rfl | rfl | rfl | rfl | rfl | rfl | rfl | rfl | rfl | rfl | rfl | rfl | rfl | rfl | rfl <;> rfl

end Go.Proofs.YtbanfkpfijcmcaaDoor.Fl
