/- What the rows lay. -/
import Derived.Test.YtbanfkpfijcmcaaGreatDoorKt
import Derived.Test.YtbanfkpfijcmcaaGreatDoorFLa
import Derived.Test.YtbanfkpfijcmcaaGreatDoorRn
import Derived.Shelf.Vars
import Derived.LaidMore
import Derived.LaidLaws
import Derived.JoinedCond
import Derived.Stop.Joined
namespace Go.Proofs.YtbanfkpfijcmcaaGreatDoor
open Go.ChangeShapes Go.WideShapes Go.ChangeAt Go.WideMaps Go.WideElems Go.RowKit
set_option linter.unusedSimpArgs false
set_option linter.unusedVariables false
set_option maxRecDepth 100000

theorem cells9 : Tryz.prog.cellsOf 9 = 1 := by kernel_rfl
theorem cells58 : Tryz.prog.cellsOf 73 = 5 := by kernel_rfl
theorem gTw : Tryz.prog.globalNamed "roundhouse/trace.words" = some 0 := by kernel_rfl
theorem tTw : (Tryz.prog.globals[0]?).map (·.type) = some 73 := by kernel_rfl
theorem open_five {w : World} {H : Type} {enc : TypeId × Value → H} {base : Nat} {spare : Nat → Bool} {held : Bool} {n : Nat} {cs : List Value} {x : DataW H × List MemPlace} (l : List (List UInt8)) (h : DataW.trod enc Tryz.prog w base spare held n 73 cs = some x) (hx : x.1 = .agg (l.map fun b => .lit (.string b))) :
    ∀ j, j < 5 → cs[j]? = some (.string ⟨(l.getD j []).toArray⟩) := by
  obtain ⟨ys, m, _, rfl, hlen, hyl, hg⟩ := DataW.trod_array Tryz.underlying73 h
  rw [cells58] at hlen
  intro j hj
  have hjy : j < ys.length := by omega
  have h1 := hg j hj
  rw [List.getElem?_eq_getElem hjy, cells9, Nat.mul_one] at h1
  obtain ⟨s, hs, hy, _⟩ := DataW.trod_string Tryz.underlying9 h1
  simp only [DataW.agg.injEq] at hx
  have h2 : (ys.map (·.1))[j]? = some ys[j].1 := by rw [List.getElem?_map, List.getElem?_eq_getElem hjy]; rfl
  rw [hx, List.getElem?_map] at h2
  have hjc : j < cs.length := by omega
  have h3 : (cs.drop j).take 1 = [cs[j]] := by rw [List.drop_eq_getElem_cons hjc]; rfl
  rw [h3] at hs
  have h4 : cs[j] = .string s := by simpa using hs
  rw [List.getElem?_eq_getElem hjc, h4]
  cases hl : l[j]? with
  | none => rw [hl] at h2; simp at h2
  | some b =>
    rw [hl, hy] at h2
    simp at h2
    rw [List.getD, hl, Option.getD_some, h2]
def twT : List (List UInt8) := [[], [116, 117, 114, 110], [114, 117, 110], [100, 105, 100], [101, 110, 100]]
theorem twl_tab : ∀ i, i < 5 → twl.getD i ByteArray.empty = ⟨(twT.getD i []).toArray⟩ := by
  intro i hi
  match i, hi with
  | 0, _ => rfl
  | 1, _ => rfl
  | 2, _ => rfl
  | 3, _ => rfl
  | 4, _ => rfl
theorem tw_of {W : World} {H : Type} {enc : TypeId × Value → H} {base : Nat} {spare : Nat → Bool} {held : Bool} {g t f : Nat} {cs0 : Array Value} {p : List MemPlace} (hg0 : Tryz.prog.globalNamed "roundhouse/trace.words" = some g) (ht0 : (Tryz.prog.globals[g]?).map (·.type) = some t) (hv0 : W.var? Tryz.prog "roundhouse/trace.words" = some cs0)
    (hd0 : DataW.trod enc Tryz.prog W base spare held f t cs0.toList = some (Rows.laid_roundhouse_trace_words, p)) : ∀ i, i < 5 → W.cell? ⟨0, i, none⟩ = some (.string (twl.getD i ByteArray.empty)) := by
  obtain rfl := Option.some.inj (gTw.symm.trans hg0)
  obtain rfl := Option.some.inj (tTw.symm.trans ht0)
  intro i hi
  have h5 := World.var?_cell hg0 hv0 i
  have h6 := open_five twT hd0 rfl i hi
  rw [h5, twl_tab i hi, ← h6, Array.getElem?_toList]
theorem tab_of {W : World} {H : Type} {enc : TypeId × Value → H} {base : Nat} {spare : Nat → Bool} {held : Bool} {g t f : Nat} {cs : Array Value} {p : List MemPlace} (hg : Tryz.prog.globalNamed "internal/strconv.uint64pow10" = some g) (ht : (Tryz.prog.globals[g]?).map (·.type) = some t) (hv : W.var? Tryz.prog "internal/strconv.uint64pow10" = some cs)
    (hd : DataW.trod enc Tryz.prog W base spare held f t cs.toList = some (Rows.laid_internal_strconv_uint64pow10, p)) : Lib.TabIs Tryz.prog W "internal/strconv.uint64pow10" .u64 Lib.pow10Tab := by
  obtain rfl := Option.some.inj (gPow.symm.trans hg)
  obtain rfl := Option.some.inj ((show (Tryz.prog.globals[2]?).map (·.type) = some 134 by kernel_rfl).symm.trans ht)
  unfold Lib.TabIs
  rw [hv, ← Lib.cells_of_tab (zs := Lib.pow10Tab) (k := .u64) Tryz.underlying134 Tryz.underlying25 (by kernel_rfl) (by kernel_rfl) hd]
theorem of_shape {W : World} (h : W.ShapedOpen Tryz.prog) : Fl.Mx W :=
  Go.Proofs.cell_of_shapedOpen_int (g := 5) (k := .i64) (zero := #[.int .i64 0]) (t := 3) h (of_decide_eq_true (by kernel_rfl)) (by kernel_rfl) rfl (by kernel_rfl) (by kernel_rfl) Tryz.underlying3
theorem err_of {W : World} {H : Type} {enc : TypeId × Value → H} {base : Nat} {spare : Nat → Bool} {n nm : String} {g g' t f : Nat} {cs : Array Value} {d : DataW H} {p : List MemPlace} (hn : Tryz.prog.globalNamed n = some g') (h45 : (Tryz.prog.globals[g']?).map (·.type) = some 59) (hg : Tryz.prog.globalNamed n = some g) (ht : (Tryz.prog.globals[g]?).map (·.type) = some t) (hv : W.var? Tryz.prog n = some cs)
    (hd : DataW.trod enc Tryz.prog W base spare false f t cs.toList = some (.iface nm d, p)) : ∃ ev, W.cell? ⟨g', 0, none⟩ = some ev ∧ EvOk ev := by
  obtain rfl := Option.some.inj (hn.symm.trans hg)
  obtain rfl := Option.some.inj (h45.symm.trans ht)
  obtain ⟨_, u, v, hc, _, _⟩ := iface_of_trod Tryz.underlying59 hd
  have h5 := World.var?_cell hg hv 0
  refine ⟨.iface u v, ?_, .inr ⟨_, _, rfl⟩⟩
  rw [h5, ← Array.getElem?_toList, hc]
  rfl
theorem of_laidX {W : World} (h : laidMetH Tryz.prog Rows.traceTextsRow.laid W) : Ev W ∧ (∃ ev, W.cell? ⟨3, 0, none⟩ = some ev ∧ EvOk ev) ∧ ∃ ev, W.cell? ⟨4, 0, none⟩ = some ev ∧ EvOk ev := by
  rw [MakeChecks.laidMetH_plain _ _ _ (by kernel_rfl)] at h
  obtain ⟨ps, ⟨_, _, _, _, _, _, _, _, _, _, ⟨_, _, _, _, _, _, _, _, _, _, ⟨g0, t0, cs0, f0, p0, q0, hg0, ht0, hv0, hd0, ⟨_, _, _, _, _, _, _, _, _, _, ⟨g1, t1, cs1, f1, p1, q1, hg1, ht1, hv1, hd1, ⟨g2, t2, cs2, f2, p2, q2, hg2, ht2, hv2, hd2, ⟨g3, t3, cs3, f3, p3, q3, hg3, ht3, hv3, hd3, ⟨g4, t4, cs4, f4, p4, q4, hg4, ht4, hv4, hd4, _⟩, _⟩, _⟩, _⟩, _⟩, _⟩, _⟩, _⟩, _, _⟩ := h
  exact ⟨⟨Fl.wd_of hg3 ht3 hv3 hd3, tw_of hg4 ht4 hv4 hd4, tab_of hg0 ht0 hv0 hd0⟩, err_of (show Tryz.prog.globalNamed "strconv.ErrSyntax" = some 3 by kernel_rfl) (by kernel_rfl) hg2 ht2 hv2 hd2, err_of (show Tryz.prog.globalNamed "strconv.ErrRange" = some 4 by kernel_rfl) (by kernel_rfl) hg1 ht1 hv1 hd1⟩
theorem of_laidN {W : World} (h : laidMetH Tryz.prog Rows.traceNamesRow.laid W) : Ev W ∧ (∃ ev, W.cell? ⟨3, 0, none⟩ = some ev ∧ EvOk ev) ∧ ∃ ev, W.cell? ⟨4, 0, none⟩ = some ev ∧ EvOk ev := by
  rw [MakeChecks.laidMetH_plain _ _ _ (by kernel_rfl)] at h
  obtain ⟨ps, ⟨_, _, _, _, _, _, _, _, _, _, ⟨_, _, _, _, _, _, _, _, _, _, ⟨g0, t0, cs0, f0, p0, q0, hg0, ht0, hv0, hd0, ⟨_, _, _, _, _, _, _, _, _, _, ⟨g1, t1, cs1, f1, p1, q1, hg1, ht1, hv1, hd1, ⟨g2, t2, cs2, f2, p2, q2, hg2, ht2, hv2, hd2, ⟨g3, t3, cs3, f3, p3, q3, hg3, ht3, hv3, hd3, ⟨g4, t4, cs4, f4, p4, q4, hg4, ht4, hv4, hd4, _⟩, _⟩, _⟩, _⟩, _⟩, _⟩, _⟩, _⟩, _, _⟩ := h
  exact ⟨⟨Fl.wd_of hg3 ht3 hv3 hd3, tw_of hg4 ht4 hv4 hd4, tab_of hg0 ht0 hv0 hd0⟩, err_of (show Tryz.prog.globalNamed "strconv.ErrSyntax" = some 3 by kernel_rfl) (by kernel_rfl) hg2 ht2 hv2 hd2, err_of (show Tryz.prog.globalNamed "strconv.ErrRange" = some 4 by kernel_rfl) (by kernel_rfl) hg1 ht1 hv1 hd1⟩
theorem rd_len {w : World} {v : Value} {es : List En} (h : Rd w v es) : es.length ≤ maxLen := by
  obtain ⟨A, c, _, h1, h2, _⟩ := h
  omega
end Go.Proofs.YtbanfkpfijcmcaaGreatDoor
