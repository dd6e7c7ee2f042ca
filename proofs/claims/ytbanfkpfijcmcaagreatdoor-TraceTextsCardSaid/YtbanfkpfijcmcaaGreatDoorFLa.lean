/- What the rows of Words, Back, Joins and Names lay; the walk of FlagBack. -/
import Derived.Test.YtbanfkpfijcmcaaGreatDoorFX
import Derived.Test.YtbanfkpfijcmcaaGreatDoorRows
namespace Go.Proofs.YtbanfkpfijcmcaaGreatDoor.Fl
open Go.ChangeShapes Go.WideShapes Go.ChangeAt Go.WideMaps Go.WideElems Go.RowKit
set_option linter.unusedSimpArgs false
set_option linter.unusedVariables false
set_option maxRecDepth 100000

theorem wd_of {W : World} {H : Type} {enc : TypeId × Value → H} {base : Nat} {spare : Nat → Bool} {held : Bool} {g t f : Nat} {cs0 : Array Value} {p : List MemPlace} (hg0 : Tryz.prog.globalNamed "roundhouse/flag.words" = some g) (ht0 : (Tryz.prog.globals[g]?).map (·.type) = some t) (hv0 : W.var? Tryz.prog "roundhouse/flag.words" = some cs0)
    (hd0 : DataW.trod enc Tryz.prog W base spare held f t cs0.toList = some (Rows.laid_roundhouse_flag_words, p)) : Wd W := by
  obtain rfl := Option.some.inj (gWords.symm.trans hg0)
  obtain rfl := Option.some.inj (tWords.symm.trans ht0)
  obtain ⟨xs, m, _, hx, hlen, hxl, hg⟩ := DataW.trod_array Tryz.underlying132 hd0
  rw [cells111] at hlen
  simp only [Prod.mk.injEq, Rows.laid_roundhouse_flag_words, DataW.agg.injEq] at hx
  have hx1 := hx.1
  have key : ∀ a j, a < 3 → j < 6 → cs0.toList[a * 6 + j]? = some (.string ⟨((tab.getD a []).getD j []).toArray⟩) := by
    intro a j ha hj
    have hax : a < xs.length := by omega
    have h1 := hg a ha
    rw [List.getElem?_eq_getElem hax, cells110] at h1
    have h2 : (xs.map (·.1))[a]? = some xs[a].1 := by rw [List.getElem?_map, List.getElem?_eq_getElem hax]; rfl
    have h3 : xs[a].1 = .agg ((tab.getD a []).map fun b => .lit (.string b)) := by
      rw [← hx1] at h2
      rcases (show a = 0 ∨ a = 1 ∨ a = 2 by omega) with rfl | rfl | rfl <;> exact (Option.some.inj h2).symm
    have h4 := open_six _ h1 h3 j hj
    rw [List.getElem?_take, if_pos hj, List.getElem?_drop] at h4
    exact h4
  intro i hi
  have h5 := World.var?_cell hg0 hv0 i
  have h6 := key (i / 6) (i % 6) (by omega) (by omega)
  rw [show i / 6 * 6 + i % 6 = i by omega] at h6
  rw [h5, wl_tab i hi, ← h6, Array.getElem?_toList]

end Go.Proofs.YtbanfkpfijcmcaaGreatDoor.Fl
