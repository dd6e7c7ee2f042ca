/- What the row of TraceBack lays; the law, whole. -/
import Derived.Test.YtbanfkpfijcmcaaDoorBk
import Derived.Test.YtbanfkpfijcmcaaDoorLp
namespace Go.Proofs.YtbanfkpfijcmcaaDoor
open Go.ChangeShapes Go.WideShapes Go.ChangeAt Go.WideMaps Go.WideElems Go.RowKit
set_option linter.unusedSimpArgs false
set_option linter.unusedVariables false
set_option maxRecDepth 100000

theorem of_shape {W : World} (h : W.ShapedOpen Tryd.prog) : Fl.Mx W :=
  Go.Proofs.cell_of_shapedOpen_int (g := 5) (k := .i64) (zero := #[.int .i64 0]) (t := 3) h (of_decide_eq_true (by kernel_rfl)) (by kernel_rfl) rfl (by kernel_rfl) (by kernel_rfl) Tryd.underlying3
theorem err_of {W : World} {H : Type} {enc : TypeId × Value → H} {base : Nat} {spare : Nat → Bool} {n nm : String} {g g' t f : Nat} {cs : Array Value} {d : DataW H} {p : List MemPlace} (hn : Tryd.prog.globalNamed n = some g') (h45 : (Tryd.prog.globals[g']?).map (·.type) = some 45) (hg : Tryd.prog.globalNamed n = some g) (ht : (Tryd.prog.globals[g]?).map (·.type) = some t) (hv : W.var? Tryd.prog n = some cs)
    (hd : DataW.trod enc Tryd.prog W base spare false f t cs.toList = some (.iface nm d, p)) : ∃ ev, W.cell? ⟨g', 0, none⟩ = some ev ∧ EvOk ev := by
  obtain rfl := Option.some.inj (hn.symm.trans hg)
  obtain rfl := Option.some.inj (h45.symm.trans ht)
  obtain ⟨_, u, v, hc, _, _⟩ := iface_of_trod Tryd.underlying45 hd
  have h5 := World.var?_cell hg hv 0
  refine ⟨.iface u v, ?_, .inr ⟨_, _, rfl⟩⟩
  rw [h5, ← Array.getElem?_toList, hc]
  rfl
theorem of_laidB {W : World} (h : laidMetH Tryd.prog Rows.traceBackRow.laid W) : Ev W ∧ (∃ ev, W.cell? ⟨3, 0, none⟩ = some ev ∧ EvOk ev) ∧ ∃ ev, W.cell? ⟨4, 0, none⟩ = some ev ∧ EvOk ev := by
  rw [MakeChecks.laidMetH_plain _ _ _ (by kernel_rfl)] at h
  obtain ⟨ps, ⟨_, _, _, _, _, _, _, _, _, _, ⟨_, _, _, _, _, _, _, _, _, _, ⟨g0, t0, cs0, f0, p0, q0, hg0, ht0, hv0, hd0, ⟨_, _, _, _, _, _, _, _, _, _, ⟨g1, t1, cs1, f1, p1, q1, hg1, ht1, hv1, hd1, ⟨g2, t2, cs2, f2, p2, q2, hg2, ht2, hv2, hd2, ⟨g3, t3, cs3, f3, p3, q3, hg3, ht3, hv3, hd3, ⟨g4, t4, cs4, f4, p4, q4, hg4, ht4, hv4, hd4, _⟩, _⟩, _⟩, _⟩, _⟩, _⟩, _⟩, _⟩, _, _⟩ := h
  exact ⟨⟨Fl.wd_of hg3 ht3 hv3 hd3, tw_of hg4 ht4 hv4 hd4, tab_of hg0 ht0 hv0 hd0⟩, err_of (show Tryd.prog.globalNamed "strconv.ErrSyntax" = some 3 by kernel_rfl) (by kernel_rfl) hg2 ht2 hv2 hd2, err_of (show Tryd.prog.globalNamed "strconv.ErrRange" = some 4 by kernel_rfl) (by kernel_rfl) hg1 ht1 hv1 hd1⟩
theorem rd_len {w : World} {v : Value} {es : List En} (h : Rd w v es) : es.length ≤ maxLen := by
  obtain ⟨A, c, _, h1, h2, _⟩ := h
  omega
theorem back_top {H : Type} {enc : TypeId × Value → H} (v : Value) (d : DataW H) (p : List MemPlace) (t : ByteArray) (W : World) (hE : (Ev W ∧ (∃ ev, W.cell? ⟨3, 0, none⟩ = some ev ∧ EvOk ev) ∧ ∃ ev, W.cell? ⟨4, 0, none⟩ = some ev ∧ EvOk ev) ∧ Fl.Mx W) {base : Nat} {held : Bool}
    {r : Reach} {b0 : Nat} (hv : Value.okWide Tryd.prog W r b0 22 v) (k : DataW.Trod enc Tryd.prog W base (fun _ => true) held 22 v d p) (ws : t.size ≤ maxLen) :
    Calls Tryd.prog 5 #[v, .string t] W fun e W' => e = .returned (.bool true) ∧ Below W.heap.size W W' := by
  obtain ⟨xa, ha, -, -, ho⟩ := open_ents hv k
  exact back_walk W v t (ents xa) (Rd.of ha) ho ⟨hE.1.1, hE.2, hE.1.2.1, hE.1.2.2⟩ (rd_len (Rd.of ha)) ws
end Go.Proofs.YtbanfkpfijcmcaaDoor
