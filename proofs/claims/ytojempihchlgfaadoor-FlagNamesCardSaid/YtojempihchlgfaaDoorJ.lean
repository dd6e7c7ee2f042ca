/- FlagDrivers. -/
import Derived.Test.YtojempihchlgfaaDoorI
namespace Go.Proofs.YtojempihchlgfaaDoor
open Go.ChangeShapes Go.WideShapes Go.ChangeAt Go.WideMaps Go.WideElems Go.RowKit
set_option linter.unusedSimpArgs false
set_option linter.unusedVariables false

theorem gHas : Tryd.prog.globalNamed "roundhouse/flag.has" = some 0 := by kernel_rfl
theorem tHas : (Tryd.prog.globals[0]?).map (·.type) = some 47 := by kernel_rfl
theorem cells3 : Tryd.prog.cellsOf 3 = 1 := by kernel_rfl
theorem cells47 : Tryd.prog.cellsOf 47 = 4 := by kernel_rfl
theorem hs_of {W : World} {H : Type} {enc : TypeId × Value → H} {base : Nat} {spare : Nat → Bool} {held : Bool} {g t f : Nat} {cs : Array Value} {p : List MemPlace} (hg1 : Tryd.prog.globalNamed "roundhouse/flag.has" = some g) (ht1 : (Tryd.prog.globals[g]?).map (·.type) = some t) (hv1 : W.var? Tryd.prog "roundhouse/flag.has" = some cs)
    (hd1 : DataW.trod enc Tryd.prog W base spare held f t cs.toList = some (Rows.laid_roundhouse_flag_has, p)) : Hs W := by
  obtain rfl := Option.some.inj (gHas.symm.trans hg1)
  obtain rfl := Option.some.inj (tHas.symm.trans ht1)
  obtain ⟨xs, m, _, hx, hlen, hxl, hg⟩ := DataW.trod_array Tryd.underlying47 hd1
  rw [cells47] at hlen
  simp only [Prod.mk.injEq, Rows.laid_roundhouse_flag_has, DataW.agg.injEq] at hx
  have hx1 := hx.1
  have key : ∀ j, j < 4 → W.cell? ⟨0, j, none⟩ = some (.int .i64 (([0, 2, 11, 15] : List Int).getD j 0)) := by
    intro j hj
    have hjx : j < xs.length := by omega
    have h1 := hg j hj
    rw [List.getElem?_eq_getElem hjx, cells3, Nat.mul_one] at h1
    obtain ⟨z, hz, hy, _⟩ := DataW.trod_int Tryd.underlying3 h1
    have h2 : (xs.map (·.1))[j]? = some xs[j].1 := by rw [List.getElem?_map, List.getElem?_eq_getElem hjx]; rfl
    rw [← hx1, hy] at h2
    have hjc : j < cs.toList.length := by omega
    have h3 : (cs.toList.drop j).take 1 = [cs.toList[j]] := by rw [List.drop_eq_getElem_cons hjc]; rfl
    rw [h3] at hz
    have h4 : cs.toList[j] = .int .i64 z := by simpa using hz
    have h5 := World.var?_cell hg1 hv1 j
    rw [h5, ← Array.getElem?_toList, List.getElem?_eq_getElem hjc, h4]
    rcases (show j = 0 ∨ j = 1 ∨ j = 2 ∨ j = 3 by omega) with rfl | rfl | rfl | rfl <;> (simp at h2; rw [← h2]; rfl)
  exact ⟨key 0 (by omega), key 1 (by omega), key 2 (by omega), key 3 (by omega)⟩

theorem of_laid2 {W : World} (h : laidMetH Tryd.prog Rows.flagDriversRow.laid W) : Wd W ∧ Hs W := by
  rw [MakeChecks.laidMetH_plain _ _ _ (by kernel_rfl)] at h
  obtain ⟨ps, ⟨g0, t0, cs0, f0, p0, q0, hg0, ht0, hv0, hd0, ⟨g1, t1, cs1, f1, p1, q1, hg1, ht1, hv1, hd1, _, _⟩, _⟩, _, _⟩ := h
  have hHs : Hs W := hs_of hg1 ht1 hv1 hd1
  refine ⟨?_, hHs⟩
  obtain rfl := Option.some.inj (gWords.symm.trans hg0)
  obtain rfl := Option.some.inj (tWords.symm.trans ht0)
  obtain ⟨xs, m, _, hx, hlen, hxl, hg⟩ := DataW.trod_array Tryd.underlying49 hd0
  rw [cells49] at hlen
  simp only [Prod.mk.injEq, Rows.laid_roundhouse_flag_words, DataW.agg.injEq] at hx
  have hx1 := hx.1
  have key : ∀ a j, a < 3 → j < 6 → cs0.toList[a * 6 + j]? = some (.string ⟨((tab.getD a []).getD j []).toArray⟩) := by
    intro a j ha hj
    have hax : a < xs.length := by omega
    have h1 := hg a ha
    rw [List.getElem?_eq_getElem hax, cells48] at h1
    have h2 : (xs.map (·.1))[a]? = some xs[a].1 := by rw [List.getElem?_map, List.getElem?_eq_getElem hax]; rfl
    have h3 : xs[a].1 = .agg ((tab.getD a []).map fun b => .lit (.string b)) := by
      rw [← hx1] at h2
      rcases (show a = 0 ∨ a = 1 ∨ a = 2 by omega) with rfl | rfl | rfl <;> exact (Option.some.inj h2).symm
    have h4 := open_six _ h1 h3 j hj
    rw [List.getElem?_take, if_pos hj, List.getElem?_drop] at h4
    exact h4
  intro i hi
  have h5 := World.var?_cell hg0 hv0 i
  have h6 := key (i / 6) (i % 6) (by omega) (by omega)
  rw [show i / 6 * 6 + i % 6 = i by omega] at h6
  rw [h5, wl_tab i hi, ← h6, Array.getElem?_toList]

set_option maxHeartbeats 2000000 in
theorem drivers_walk (d : Int) (s : ByteArray) (n a : Int) (A : Option Addr) (c : Nat) (l : List Int) (w : World) (hw : Wd w ∧ Hs w) (hsz : s.size ≤ maxLen) (wn : (Lit.int .i64 n).wf = true) (wa : (Lit.int .i64 a).wf = true) (hz : Ints .i64 w A l) (hc : l.length ≤ c) (hm : l.length ≤ maxLen) :
    Calls Tryd.prog 4 #[.int .i64 d, .string s, .int .i64 n, .int .i64 a, .slice A l.length c] w fun e w' => e = .returned (.bool true) ∧ Below w.heap.size w w' := by
  unfold maxLen at hsz hm
  have HW := Lib.hid hw.1
  have HS := Lib.hid hw.2
  have HZ := Lib.hid hz
  clear hw hz
  have BS := Lib.hid (by_same s)
  have WN := Lib.hid wn; have WA := Lib.hid wa; clear wn wa
  by_cases h1 : s.size ≤ 1000
  · by_cases h2 : l.length ≤ 50
    · by_cases h3 : (0 ≤ n ∧ n ≤ 15) ∧ (0 ≤ a ∧ a ≤ 15)
      · obtain ⟨⟨n0, n1⟩, a0, a1⟩ := h3
        have CS := Lib.hid (choose_same n a l n0 n1 a0 a1)
        go_enter Tryd.func4, Tryd.ntmps4
        go_wp2_with (first
          | (go_at_call 14; refine (choose_in n a A c l _ HW.out HS.out HZ.out h2 hc n0 n1 a0 a1).mono ?_; rintro e w' ⟨rfl, rfl⟩; rw [CS.out])
          | (go_at_call 15; refine (rchoose_in n a A c l _ HZ.out h2 hc n0 n1 a0 a1).mono ?_; rintro e w' ⟨rfl, rfl⟩)
          | (go_at_call 16; refine (features_any d _ HS.out).mono ?_; rintro e w' ⟨rfl, rfl⟩)
          | (go_at_call 17; refine (rfeatures_any d _).mono ?_; rintro e w' ⟨rfl, rfl⟩)
          | (go_at_call 18; refine (name_any d _ HW.out).mono ?_; rintro e w' ⟨rfl, rfl⟩)
          | (go_at_call 19; refine (rname_any d _).mono ?_; rintro e w' ⟨rfl, rfl⟩)
          | (go_at_call 20; refine (byname_any s _ HW.out).mono ?_; rintro e w9 ⟨rfl, b9⟩; rw [BS.out])
          | (go_at_call 21; refine (rbyname_any s _).mono ?_; rintro e w' ⟨rfl, rfl⟩))
        go_ret
        exact ⟨rfl, b9⟩
      · have h3' : (n < 0 ∨ 15 < n) ∨ (a < 0 ∨ 15 < a) := by omega
        have H3 := Lib.hid h3'; clear h3 h3'
        go_enter Tryd.func4, Tryd.ntmps4
        go_wp2_with (first
          | (go_at_call 14; refine (choose_out n a A c l.length _ HW.out WN.out WA.out H3.out).mono ?_; rintro e w' ⟨rfl, rfl⟩)
          | (go_at_call 15; refine (rchoose_out n a A c l.length _ H3.out).mono ?_; rintro e w' ⟨rfl, rfl⟩)
          | (go_at_call 16; refine (features_any d _ HS.out).mono ?_; rintro e w' ⟨rfl, rfl⟩)
          | (go_at_call 17; refine (rfeatures_any d _).mono ?_; rintro e w' ⟨rfl, rfl⟩)
          | (go_at_call 18; refine (name_any d _ HW.out).mono ?_; rintro e w' ⟨rfl, rfl⟩)
          | (go_at_call 19; refine (rname_any d _).mono ?_; rintro e w' ⟨rfl, rfl⟩)
          | (go_at_call 20; refine (byname_any s _ HW.out).mono ?_; rintro e w9 ⟨rfl, b9⟩; rw [BS.out])
          | (go_at_call 21; refine (rbyname_any s _).mono ?_; rintro e w' ⟨rfl, rfl⟩))
        go_ret
        exact ⟨rfl, b9⟩
    · go_enter Tryd.func4, Tryd.ntmps4
      go_wp2_with fail
      go_ret
      exact ⟨rfl, Below.refl _ _⟩
  · go_enter Tryd.func4, Tryd.ntmps4
    go_wp2_with fail
    go_ret
    exact ⟨rfl, Below.refl _ _⟩
end Go.Proofs.YtojempihchlgfaaDoor
