/- Parse, FeatParse; the walk of FlagWords. -/
import Derived.Test.YtbanfkpfijcmcaaDoorFR
namespace Go.Proofs.YtbanfkpfijcmcaaDoor.Fl
open Go.RowKit
set_option linter.unusedSimpArgs false
set_option linter.unusedVariables false
set_option maxRecDepth 100000

theorem Parse_any (s : ByteArray) (w : World) (hw : Wd w) (hx : Mx w) (hs : s.size ≤ 100000) : Calls Tryd.prog 38 #[.string s] w (RP 0 s w) := by
  have h := parse0 s w hw hx hs
  unfold RP at h ⊢
  have H := Lib.hid h
  clear h hw hx
  generalize paR 0 s = pr at *
  generalize paE 0 s = pe at *
  go_enter Tryd.func38, Tryd.ntmps38
  go_wp2_with (go_at_call 55; refine H.out.mono ?_; rintro e w' ⟨rfl, hb⟩)
  go_ret2
  exact ⟨rfl, hb⟩
/-- What the laws lean on: the tables, and the library's variable. -/
def Env (w : World) : Prop := Wd w ∧ Mx w
theorem Env.later {w w' : World} (h : Env w) (hb : Below w.heap.size w w') : Env w' :=
  ⟨h.1.same (hb.block 1 h.1.lt), h.2.same (hb.block 5 h.2.lt)⟩

theorem of_shape {W : World} (h : W.ShapedOpen Tryd.prog) : Mx W := by
  have := Go.Proofs.cell_of_shapedOpen_int (g := 5) (k := .i64) (zero := #[.int .i64 0]) (t := 3) h (of_decide_eq_true (by kernel_rfl)) (by kernel_rfl) rfl (by kernel_rfl) (by kernel_rfl) Tryd.underlying3
  exact this
end Go.Proofs.YtbanfkpfijcmcaaDoor.Fl
