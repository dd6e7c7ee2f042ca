/- The calls that came in, opened; the law of the plays as the row asks it. -/
import Derived.Test.YtgnamdncoidcnaaK
namespace Go.Proofs.Ytgnamdncoidcnaa
open Go.RowKit Go.ChangeShapes Go.WideShapes Go.ChangeAt
set_option linter.unusedSimpArgs false
set_option linter.unusedVariables false

theorem list6 {α : Type} (l : List α) (h : l.length = 6) : ∃ a b c d e f, l = [a, b, c, d, e, f] := by
  match l, h with
  | [a, b, c, d, e, f], _ => exact ⟨a, b, c, d, e, f, rfl⟩
theorem cells3 : Try.prog.cellsOf 3 = 1 := by kernel_rfl
theorem cells22 : Try.prog.cellsOf 22 = 1 := by kernel_rfl
theorem cells2 : Try.prog.cellsOf 2 = 1 := by kernel_rfl
theorem cells24 : Try.prog.cellsOf 24 = 3 := by kernel_rfl
theorem cells49 : Try.prog.cellsOf 49 = 6 := by kernel_rfl

section
variable {H : Type} {enc : TypeId × Value → H} {w : World} {base : Nat} {spare : Nat → Bool} {held : Bool}
theorem open_op {n : Nat} {cs : List Value} {x : DataW H × List MemPlace} (h : DataW.trod enc Try.prog w base spare held n 49 cs = some x) : ∃ o : OpV, cs = o.cells ∧ o.wf := by
  obtain ⟨xs, n', _, _, hlen, hxl, hf⟩ := DataW.trod_struct Try.underlying49 h
  rw [cells49] at hlen
  obtain ⟨c0, c1, c2, c3, c4, c5, rfl⟩ := list6 cs hlen
  have hx : ∀ i, i < 4 → xs[i]? = some (xs[i]?.getD (.nil, [])) := by
    intro i hi
    have : i < xs.length := by rw [hxl]; exact hi
    rw [List.getElem?_eq_getElem this]; rfl
  have h0 := (hf 0 _ rfl).trans (hx 0 (by omega))
  have h1 := (hf 1 _ rfl).trans (hx 1 (by omega))
  have h2 := (hf 2 _ rfl).trans (hx 2 (by omega))
  have h3 := (hf 3 _ rfl).trans (hx 3 (by omega))
  simp only [List.getElem_toArray, List.getElem_cons_zero, List.getElem_cons_succ, cells3, cells22, cells2, cells24, List.drop_zero, List.drop_succ_cons, List.take_succ_cons, List.take_zero] at h0 h1 h2 h3
  obtain ⟨a0, e0, _, w0⟩ := DataW.trod_int Try.underlying3 h0
  obtain ⟨a1, e1, _, w1⟩ := DataW.trod_int Try.underlying22 h1
  obtain ⟨a2, e2, _, w2⟩ := DataW.trod_int Try.underlying2 h2
  obtain ⟨ys, n2, _, _, _, hyl, hg⟩ := DataW.trod_struct Try.underlying24 h3
  have hy : ∀ i, i < 3 → ys[i]? = some (ys[i]?.getD (.nil, [])) := by
    intro i hi
    have : i < ys.length := by rw [hyl]; exact hi
    rw [List.getElem?_eq_getElem this]; rfl
  have g0 := (hg 0 _ rfl).trans (hy 0 (by omega))
  have g1 := (hg 1 _ rfl).trans (hy 1 (by omega))
  have g2 := (hg 2 _ rfl).trans (hy 2 (by omega))
  simp only [List.getElem_toArray, List.getElem_cons_zero, List.getElem_cons_succ, cells22, cells2, List.drop_zero, List.drop_succ_cons, List.take_succ_cons, List.take_zero] at g0 g1 g2
  obtain ⟨a3, e3, _, w3⟩ := DataW.trod_int Try.underlying2 g0
  obtain ⟨a4, e4, _, w4⟩ := DataW.trod_int Try.underlying22 g1
  obtain ⟨a5, e5, _, w5⟩ := DataW.trod_int Try.underlying2 g2
  simp at e0 e1 e2 e3 e4 e5
  subst e0 e1 e2 e3 e4 e5
  exact ⟨⟨a0, a1, a2, a3, a4, a5⟩, rfl, w0, w1, w2, w3, w4, w5⟩

theorem add_addr (b off n : Nat) : (⟨b, off, none⟩ : Addr).add n = ⟨b, off + n, none⟩ := by
  unfold Addr.add; split
  · rename_i h; subst h; rfl
  · rfl

theorem open_ops {v : Value} {d : DataW H} {p : List MemPlace} {r : Reach} {b0 : Nat} (hv : Value.okWide Try.prog w r b0 42 v) (h : DataW.Trod enc Try.prog w base spare held 42 v d p) :
    ∃ (a : Option Addr) (cap : Nat) (os : List OpV), v = .slice a os.length cap ∧ os.length ≤ maxLen ∧ OpsAt w a os := by
  obtain ⟨a, len, cap, rfl⟩ := okWide_slice Try.underlying42 hv
  obtain ⟨fuel, hf⟩ := h
  rcases Deep.open_slice Try.underlying42 hf with ⟨hcs, _⟩ | ⟨ad, l, c, m, n, D, Pl, hcs, _, hl, hm, hmm, _, hi⟩
  · simp [Value.cells] at hcs
    obtain ⟨rfl, rfl, rfl⟩ := hcs
    exact ⟨none, 0, [], rfl, Nat.zero_le _, fun h => absurd h (Nat.lt_irrefl _)⟩
  · simp [Value.cells] at hcs
    obtain ⟨rfl, rfl, rfl⟩ := hcs
    have hlm : len ≤ m := by rw [hmm]; split <;> omega
    have ex : ∀ i, ∃ o : OpV, i < len → o.wf ∧ ∀ j, j < 6 → w.cell? ((ad.add (i * 6)).add j) = o.cells[j]? := by
      intro i
      by_cases hil : i < len
      · obtain ⟨cs', hc, ht⟩ := hi i (by omega)
        rw [cells49] at hc
        obtain ⟨o, rfl, ho⟩ := open_op ht
        obtain ⟨_, _, hat⟩ := World.cells?_some hc
        exact ⟨o, fun _ => ⟨ho, fun j hj => hat j hj⟩⟩
      · exact ⟨⟨0, 0, 0, 0, 0, 0⟩, fun h => absurd h hil⟩
    obtain ⟨O, hO⟩ := Classical.axiomOfChoice ex
    refine ⟨some ad, cap, (List.range len).map O, by simp, by simp; omega, fun h0 => ?_⟩
    simp only [List.length_map, List.length_range] at h0
    have h00 := (hO 0 h0).2 0 (by omega)
    have hsome : (O 0).cells[0]? = some (.int .i64 (O 0).kd) := rfl
    rw [hsome] at h00
    obtain ⟨hb, hs⟩ := cell_lt h00
    obtain ⟨b, off, spot⟩ := ad
    simp [Addr.add] at hb hs
    subst hs
    refine ⟨b, off, rfl, hb, fun i hi => ?_⟩
    simp only [List.length_map, List.length_range] at hi
    simp only [List.getElem_map, List.getElem_range]
    refine ⟨(hO i hi).1, fun j hj => ?_⟩
    have := (hO i hi).2 j hj
    rw [add_addr, add_addr] at this
    exact this

theorem plays_top (M E B now : Int) (v : Value) (d : DataW H) (p : List MemPlace) (w : World) (_ : (Lit.int .i64 M).wf = true) (_ : (Lit.int .u64 E).wf = true) (_ : (Lit.int .i64 B).wf = true) (w3 : (Lit.int .u64 now).wf = true)
    {r : Reach} {b0 : Nat} (hv : Value.okWide Try.prog w r b0 42 v) (h : DataW.Trod enc Try.prog w base spare held 42 v d p) :
    Calls Try.prog 7 #[.agg #[.int .i64 M, .int .u64 E, .int .i64 B], .int .u64 now, v] w fun e w' => e = .returned (.bool true) ∧ Below w.heap.size w w' := by
  obtain ⟨a, cap, os, rfl, hm, ho⟩ := open_ops hv h
  exact plays_walk M E B now a cap os w (bd_u64 w3).1 (bd_u64 w3).2 ho (by unfold maxLen at hm; omega)
end
end Go.Proofs.Ytgnamdncoidcnaa
