/- What the rows of Words, Back, Joins and Names lay; the walk of FlagBack. -/
import Derived.Test.YtojempihchlgfaaDoorX
namespace Go.Proofs.YtojempihchlgfaaDoor
open Go.ChangeShapes Go.WideShapes Go.ChangeAt Go.WideMaps Go.WideElems Go.RowKit
set_option linter.unusedSimpArgs false
set_option linter.unusedVariables false
set_option maxRecDepth 100000

theorem wd_of {W : World} {H : Type} {enc : TypeId × Value → H} {base : Nat} {spare : Nat → Bool} {held : Bool} {g t f : Nat} {cs0 : Array Value} {p : List MemPlace} (hg0 : Tryd.prog.globalNamed "roundhouse/flag.words" = some g) (ht0 : (Tryd.prog.globals[g]?).map (·.type) = some t) (hv0 : W.var? Tryd.prog "roundhouse/flag.words" = some cs0)
    (hd0 : DataW.trod enc Tryd.prog W base spare held f t cs0.toList = some (Rows.laid_roundhouse_flag_words, p)) : Wd W := by
  obtain rfl := Option.some.inj (gWords.symm.trans hg0)
  obtain rfl := Option.some.inj (tWords.symm.trans ht0)
  obtain ⟨xs, m, _, hx, hlen, hxl, hg⟩ := DataW.trod_array Tryd.underlying49 hd0
  rw [cells49] at hlen
  simp only [Prod.mk.injEq, Rows.laid_roundhouse_flag_words, DataW.agg.injEq] at hx
  have hx1 := hx.1
  have key : ∀ a j, a < 3 → j < 6 → cs0.toList[a * 6 + j]? = some (.string ⟨((tab.getD a []).getD j []).toArray⟩) := by
    intro a j ha hj
    have hax : a < xs.length := by omega
    have h1 := hg a ha
    rw [List.getElem?_eq_getElem hax, cells48] at h1
    have h2 : (xs.map (·.1))[a]? = some xs[a].1 := by rw [List.getElem?_map, List.getElem?_eq_getElem hax]; rfl
    have h3 : xs[a].1 = .agg ((tab.getD a []).map fun b => .lit (.string b)) := by
      rw [← hx1] at h2
      rcases (show a = 0 ∨ a = 1 ∨ a = 2 by omega) with rfl | rfl | rfl <;> exact (Option.some.inj h2).symm
    have h4 := open_six _ h1 h3 j hj
    rw [List.getElem?_take, if_pos hj, List.getElem?_drop] at h4
    exact h4
  intro i hi
  have h5 := World.var?_cell hg0 hv0 i
  have h6 := key (i / 6) (i % 6) (by omega) (by omega)
  rw [show i / 6 * 6 + i % 6 = i by omega] at h6
  rw [h5, wl_tab i hi, ← h6, Array.getElem?_toList]

theorem of_laidW {W : World} (h : laidMetH Tryd.prog Rows.flagWordsRow.laid W) : Wd W := by
  rw [MakeChecks.laidMetH_plain _ _ _ (by kernel_rfl)] at h
  obtain ⟨ps, ⟨_, _, _, _, _, _, _, _, _, _, ⟨g0, t0, cs0, f0, p0, q0, hg0, ht0, hv0, hd0, _⟩, _⟩, _, _⟩ := h
  exact wd_of hg0 ht0 hv0 hd0
theorem of_laidB {W : World} (h : laidMetH Tryd.prog Rows.flagBackRow.laid W) : Wd W := of_laidW h
theorem of_laidJ {W : World} (h : laidMetH Tryd.prog Rows.flagJoinsRow.laid W) : Wd W := of_laidW h
theorem of_laidN {W : World} (h : laidMetH Tryd.prog Rows.flagNamesRow.laid W) : Wd W ∧ Hs W := by
  rw [MakeChecks.laidMetH_plain _ _ _ (by kernel_rfl)] at h
  obtain ⟨ps, ⟨_, _, _, _, _, _, _, _, _, _, ⟨g0, t0, cs0, f0, p0, q0, hg0, ht0, hv0, hd0, ⟨g1, t1, cs1, f1, p1, q1, hg1, ht1, hv1, hd1, _⟩, _⟩, _⟩, _, _⟩ := h
  exact ⟨wd_of hg0 ht0 hv0 hd0, hs_of hg1 ht1 hv1 hd1⟩
theorem words_top2 (m : Int) (s : ByteArray) (w : World) (hw : Wd w ∧ Mx w) (_ : (Lit.int .i64 m).wf = true) (ws : s.size ≤ maxLen) : Calls Tryd.prog 6 #[.int .i64 m, .string s] w fun e w' => e = .returned (.bool true) ∧ Below w.heap.size w w' := by
  by_cases h : s.size ≤ 1000
  · exact words_walk m s w hw h
  · exact words_long m s w (by omega) ws
end Go.Proofs.YtojempihchlgfaaDoor
