/- Clones of entries, and what is picked. -/
import Derived.Test.YtbanfkpfijcmcaaD
namespace Go.Proofs.Ytbanfkpfijcmcaa
open Go.RowKit
set_option linter.unusedSimpArgs false
set_option linter.unusedVariables false
set_option maxRecDepth 100000

/-- An entry's value. -/
def agE (x : En) (dv : Value) : Value := .agg #[.int .i64 x.kd, .int .u64 x.tk, .int .i64 x.id, .int .i64 x.fl, .int .i64 x.nn, .int .i64 x.er, dv]
theorem set_block {w : World} {b : Nat} {cs : Array Value} {T : TypeId} {fr : Nat × Nat} (h : w.heap[b]? = some (.cells cs T fr)) (j : Nat) (v : Value) : (w.setCell ⟨b, j, none⟩ v).heap[b]? = some (.cells (cs.setIfInBounds j v) T fr) := by
  unfold World.setCell
  simp only [Array.getElem?_modify, if_pos, h, Option.map_some, Option.isSome_none, Bool.false_eq_true, if_false]
theorem set_other (w : World) {b c : Nat} (h : c ≠ b) (j : Nat) (v : Value) : (w.setCell ⟨b, j, none⟩ v).heap[c]? = w.heap[c]? := Below.heap_setCell _ _ _ _ h

set_option maxHeartbeats 2000000 in
theorem twin_any (w : World) (x : En) (Ad : Option Addr) (cd : Nat) (h : DataAt w (.slice Ad x.dt.length cd) x.dt) (hl : x.dt.length ≤ 10000000) :
    Calls Try.prog 13 #[agE x (.slice Ad x.dt.length cd)] w fun e w' => (∃ A' c', e = .returned (agE x (.slice A' x.dt.length c')) ∧ w'.ownsRow w.heap.size 5 1 (.slice A' x.dt.length c') x.dt.length (byt x.dt)) ∧ Below w.heap.size w w' := by
  unfold agE
  obtain ⟨w2, hw2⟩ : ∃ w2, w2 = ((w.alloc (.cells #[.int .i64 x.kd, .int .u64 x.tk, .int .i64 x.id, .int .i64 x.fl, .int .i64 x.nn, .int .i64 x.er, .slice Ad x.dt.length cd] 28)).alloc (.cells #[.int .i64 0, .int .u64 0, .int .i64 0, .int .i64 0, .int .i64 0, .int .i64 0, .slice none 0 0] 28)) := ⟨_, rfl⟩
  have B2 : Hid (Below w.heap.size w w2) := Lib.hid (by rw [hw2]; exact ((Below.refl _ w).alloc (Nat.le_refl _) _).alloc (by simp) _)
  have K1 : Hid (w2.heap[w.heap.size]? = some (.cells #[.int .i64 x.kd, .int .u64 x.tk, .int .i64 x.id, .int .i64 x.fl, .int .i64 x.nn, .int .i64 x.er, .slice Ad x.dt.length cd] 28 (0, 0))) := Lib.hid (by rw [hw2]; exact (Below.heap_alloc _ _ _ (by simp)).trans (new_block _ _))
  have K2 : Hid (w2.heap[w.heap.size + 1]? = some (.cells #[.int .i64 0, .int .u64 0, .int .i64 0, .int .i64 0, .int .i64 0, .int .i64 0, .slice none 0 0] 28 (0, 0))) := Lib.hid (by
    rw [hw2]
    have := new_block (w.alloc (.cells #[.int .i64 x.kd, .int .u64 x.tk, .int .i64 x.id, .int .i64 x.fl, .int .i64 x.nn, .int .i64 x.er, .slice Ad x.dt.length cd] 28)) (.cells #[.int .i64 0, .int .u64 0, .int .i64 0, .int .i64 0, .int .i64 0, .int .i64 0, .slice none 0 0] 28)
    rw [World.size_alloc] at this
    exact this)
  have hsz : w2.heap.size = w.heap.size + 2 := by rw [hw2]; simp
  have HC := Lib.hid (clone_any w2 (.slice Ad x.dt.length cd) x.dt (h.below B2.out) hl)
  clear h
  go_enter Try.func13, Try.ntmps13
  go_upto_region 1 with (fail)
  rw [← hw2]
  clear hw2
  generalize hb1 : w.heap.size = b1 at *
  have HB1 := Lib.hid hb1
  clear hb1
  have x6 := (cell_of K1.out 6).1
  simp at x6
  generalize hn : x.dt.length = n at *
  have HN := Lib.hid hn
  clear hn
  go_wp2_with fail
  refine HC.out.mono ?_
  rintro e w3 ⟨⟨v', rfl, r3⟩, b3⟩
  obtain ⟨A', c', rfl, -⟩ := row_form r3
  have R3 := Lib.hid r3; have B3 := Lib.hid b3
  have k1 := (b3.block b1 (by omega)).trans K1.out
  have k2 := (b3.block (b1 + 1) (by omega)).trans K2.out
  have y6 := cell_of k1 6
  obtain ⟨y6, z6⟩ := y6
  simp at y6
  have K3 := Lib.hid k1; have K4 := Lib.hid k2
  clear r3 b3 k1 k2 x6
  go_upto_region 2 with (fail)
  have K5 : Hid ((w3.setCell ⟨b1, 6, none⟩ (.slice A' n c')).heap[b1]? = some (.cells #[.int .i64 x.kd, .int .u64 x.tk, .int .i64 x.id, .int .i64 x.fl, .int .i64 x.nn, .int .i64 x.er, .slice A' n c'] 28 (0, 0))) := Lib.hid (set_block K3.out 6 _)
  have K6 : Hid ((w3.setCell ⟨b1, 6, none⟩ (.slice A' n c')).heap[b1 + 1]? = some (.cells #[.int .i64 0, .int .u64 0, .int .i64 0, .int .i64 0, .int .i64 0, .int .i64 0, .slice none 0 0] 28 (0, 0))) := Lib.hid ((set_other _ (by omega) _ _).trans K4.out)
  have B6 : Hid (Below b1 w (w3.setCell ⟨b1, 6, none⟩ (.slice A' n c'))) := Lib.hid ((B2.out.trans (B3.out.mono (by omega))).setCell (p := ⟨b1, 6, none⟩) (Nat.le_refl _) _)
  have R6 : Hid ((w3.setCell ⟨b1, 6, none⟩ (.slice A' n c')).ownsRow w2.heap.size 5 1 (.slice A' n c') n (byt x.dt)) := Lib.hid (row_same R3.out (fun b e => set_other _ (by have := (R3.out.lt b e).1; omega) _ _))
  generalize w3.setCell ⟨b1, 6, none⟩ (.slice A' n c') = w4 at *
  have ha := cell_of K5.out; have hb := cell_of K6.out
  have a0 := (ha 0).1; have a1 := (ha 1).1; have a2 := (ha 2).1; have a3 := (ha 3).1; have a4 := (ha 4).1; have a5 := (ha 5).1; have a6 := (ha 6).1
  have d0 := (hb 0).1; have d1 := (hb 1).1; have d2 := (hb 2).1; have d3 := (hb 3).1; have d4 := (hb 4).1; have d5 := (hb 5).1; have d6 := (hb 6).1
  have f0 := (hb 0).2; have f1 := (hb 1).2; have f2 := (hb 2).2; have f3 := (hb 3).2; have f4 := (hb 4).2; have f5 := (hb 5).2; have f6 := (hb 6).2
  simp at a0 a1 a2 a3 a4 a5 a6 d0 d1 d2 d3 d4 d5 d6
  clear ha hb y6 z6
  go_wp2_with fail
  have g0 := set_block K6.out 0 (.int .i64 x.kd)
  have g1 := set_block g0 1 (.int .u64 x.tk)
  have g2 := set_block g1 2 (.int .i64 x.id)
  have g3 := set_block g2 3 (.int .i64 x.fl)
  have g4 := set_block g3 4 (.int .i64 x.nn)
  have g5 := set_block g4 5 (.int .i64 x.er)
  have g6 := set_block g5 6 (.slice A' n c')
  clear g0 g1 g2 g3 g4 g5 a0 a1 a2 a3 a4 a5 a6 d0 d1 d2 d3 d4 d5 d6 f0 f1 f2 f3 f4 f5 f6
  have hB7 := ((((((B6.out.setCell (p := ⟨b1 + 1, 0, none⟩) (by simp) (.int .i64 x.kd)).setCell (p := ⟨b1 + 1, 1, none⟩) (by simp) (.int .u64 x.tk)).setCell (p := ⟨b1 + 1, 2, none⟩) (by simp) (.int .i64 x.id)).setCell (p := ⟨b1 + 1, 3, none⟩) (by simp) (.int .i64 x.fl)).setCell (p := ⟨b1 + 1, 4, none⟩) (by simp) (.int .i64 x.nn)).setCell (p := ⟨b1 + 1, 5, none⟩) (by simp) (.int .i64 x.er)).setCell (p := ⟨b1 + 1, 6, none⟩) (by simp) (.slice A' n c')
  have hR7 : ((((((((w4.setCell ⟨b1 + 1, 0, none⟩ (.int .i64 x.kd)).setCell ⟨b1 + 1, 1, none⟩ (.int .u64 x.tk)).setCell ⟨b1 + 1, 2, none⟩ (.int .i64 x.id)).setCell ⟨b1 + 1, 3, none⟩ (.int .i64 x.fl)).setCell ⟨b1 + 1, 4, none⟩ (.int .i64 x.nn)).setCell ⟨b1 + 1, 5, none⟩ (.int .i64 x.er)).setCell ⟨b1 + 1, 6, none⟩ (.slice A' n c'))).ownsRow w2.heap.size 5 1 (.slice A' n c') n (byt x.dt) := by
    refine row_same R6.out (fun b e => ?_)
    have hb := (R6.out.lt b e).1
    have hne : b ≠ b1 + 1 := by omega
    simp only [set_other _ hne]
  generalize ((((((((w4.setCell ⟨b1 + 1, 0, none⟩ (.int .i64 x.kd)).setCell ⟨b1 + 1, 1, none⟩ (.int .u64 x.tk)).setCell ⟨b1 + 1, 2, none⟩ (.int .i64 x.id)).setCell ⟨b1 + 1, 3, none⟩ (.int .i64 x.fl)).setCell ⟨b1 + 1, 4, none⟩ (.int .i64 x.nn)).setCell ⟨b1 + 1, 5, none⟩ (.int .i64 x.er)).setCell ⟨b1 + 1, 6, none⟩ (.slice A' n c'))) = w5 at *
  have g7 : w5.heap[b1 + 1]? = some (.cells #[.int .i64 x.kd, .int .u64 x.tk, .int .i64 x.id, .int .i64 x.fl, .int .i64 x.nn, .int .i64 x.er, .slice A' n c'] 28 (0, 0)) := g6
  have hc := cell_of g7
  have a0 := (hc 0).1; have a1 := (hc 1).1; have a2 := (hc 2).1; have a3 := (hc 3).1; have a4 := (hc 4).1; have a5 := (hc 5).1; have a6 := (hc 6).1
  simp at a0 a1 a2 a3 a4 a5 a6
  clear hc g6 g7
  refine bodyPost_ret (v := .agg #[.int .i64 x.kd, .int .u64 x.tk, .int .i64 x.id, .int .i64 x.fl, .int .i64 x.nn, .int .i64 x.er, .slice A' n c']) (by simp [results, Try.results13, go_sem, a0, a1, a2, a3, a4, a5, a6]) rfl ⟨⟨A', c', by rw [HN.out], ?_⟩, by rw [HB1.out]; exact hB7⟩
  rw [HN.out, HB1.out]
  refine ⟨hR7.1, ?_⟩
  rcases hR7.2 with h0 | ⟨g, cap, cur, e1, e2, e3⟩
  · exact .inl h0
  · exact .inr ⟨g, cap, cur, e1, by omega, e3⟩
end Go.Proofs.Ytbanfkpfijcmcaa
