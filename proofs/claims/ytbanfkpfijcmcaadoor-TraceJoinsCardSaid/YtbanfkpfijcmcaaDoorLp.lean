/- What the row of TraceParts lays; the law, whole. -/
import Derived.Test.YtbanfkpfijcmcaaDoorKt
import Derived.Test.YtbanfkpfijcmcaaDoorFLa
import Derived.Shelf.Vars
import Derived.LaidMore
import Derived.LaidLaws
import Derived.JoinedCond
import Derived.Stop.Joined
namespace Go.Proofs.YtbanfkpfijcmcaaDoor
open Go.ChangeShapes Go.WideShapes Go.ChangeAt Go.WideMaps Go.WideElems Go.RowKit
set_option linter.unusedSimpArgs false
set_option linter.unusedVariables false
set_option maxRecDepth 100000

theorem cells9 : Tryd.prog.cellsOf 9 = 1 := by kernel_rfl
theorem cells58 : Tryd.prog.cellsOf 58 = 5 := by kernel_rfl
theorem gTw : Tryd.prog.globalNamed "roundhouse/trace.words" = some 0 := by kernel_rfl
theorem tTw : (Tryd.prog.globals[0]?).map (·.type) = some 58 := by kernel_rfl
theorem open_five {w : World} {H : Type} {enc : TypeId × Value → H} {base : Nat} {spare : Nat → Bool} {held : Bool} {n : Nat} {cs : List Value} {x : DataW H × List MemPlace} (l : List (List UInt8)) (h : DataW.trod enc Tryd.prog w base spare held n 58 cs = some x) (hx : x.1 = .agg (l.map fun b => .lit (.string b))) :
    ∀ j, j < 5 → cs[j]? = some (.string ⟨(l.getD j []).toArray⟩) := by
  obtain ⟨ys, m, _, rfl, hlen, hyl, hg⟩ := DataW.trod_array Tryd.underlying58 h
  rw [cells58] at hlen
  intro j hj
  have hjy : j < ys.length := by omega
  have h1 := hg j hj
  rw [List.getElem?_eq_getElem hjy, cells9, Nat.mul_one] at h1
  obtain ⟨s, hs, hy, _⟩ := DataW.trod_string Tryd.underlying9 h1
  simp only [DataW.agg.injEq] at hx
  have h2 : (ys.map (·.1))[j]? = some ys[j].1 := by rw [List.getElem?_map, List.getElem?_eq_getElem hjy]; rfl
  rw [hx, List.getElem?_map] at h2
  have hjc : j < cs.length := by omega
  have h3 : (cs.drop j).take 1 = [cs[j]] := by rw [List.drop_eq_getElem_cons hjc]; rfl
  rw [h3] at hs
  have h4 : cs[j] = .string s := by simpa using hs
  rw [List.getElem?_eq_getElem hjc, h4]
  cases hl : l[j]? with
  | none => rw [hl] at h2; simp at h2
  | some b =>
    rw [hl, hy] at h2
    simp at h2
    rw [List.getD, hl, Option.getD_some, h2]
def twT : List (List UInt8) := [[], [116, 117, 114, 110], [114, 117, 110], [100, 105, 100], [101, 110, 100]]
theorem twl_tab : ∀ i, i < 5 → twl.getD i ByteArray.empty = ⟨(twT.getD i []).toArray⟩ := by
  intro i hi
  match i, hi with
  | 0, _ => rfl
  | 1, _ => rfl
  | 2, _ => rfl
  | 3, _ => rfl
  | 4, _ => rfl
theorem tw_of {W : World} {H : Type} {enc : TypeId × Value → H} {base : Nat} {spare : Nat → Bool} {held : Bool} {g t f : Nat} {cs0 : Array Value} {p : List MemPlace} (hg0 : Tryd.prog.globalNamed "roundhouse/trace.words" = some g) (ht0 : (Tryd.prog.globals[g]?).map (·.type) = some t) (hv0 : W.var? Tryd.prog "roundhouse/trace.words" = some cs0)
    (hd0 : DataW.trod enc Tryd.prog W base spare held f t cs0.toList = some (Rows.laid_roundhouse_trace_words, p)) : ∀ i, i < 5 → W.cell? ⟨0, i, none⟩ = some (.string (twl.getD i ByteArray.empty)) := by
  obtain rfl := Option.some.inj (gTw.symm.trans hg0)
  obtain rfl := Option.some.inj (tTw.symm.trans ht0)
  intro i hi
  have h5 := World.var?_cell hg0 hv0 i
  have h6 := open_five twT hd0 rfl i hi
  rw [h5, twl_tab i hi, ← h6, Array.getElem?_toList]
theorem tab_of {W : World} {H : Type} {enc : TypeId × Value → H} {base : Nat} {spare : Nat → Bool} {held : Bool} {g t f : Nat} {cs : Array Value} {p : List MemPlace} (hg : Tryd.prog.globalNamed "internal/strconv.uint64pow10" = some g) (ht : (Tryd.prog.globals[g]?).map (·.type) = some t) (hv : W.var? Tryd.prog "internal/strconv.uint64pow10" = some cs)
    (hd : DataW.trod enc Tryd.prog W base spare held f t cs.toList = some (Rows.laid_internal_strconv_uint64pow10, p)) : Lib.TabIs Tryd.prog W "internal/strconv.uint64pow10" .u64 Lib.pow10Tab := by
  obtain rfl := Option.some.inj (gPow.symm.trans hg)
  obtain rfl := Option.some.inj ((show (Tryd.prog.globals[2]?).map (·.type) = some 113 by kernel_rfl).symm.trans ht)
  unfold Lib.TabIs
  rw [hv, ← Lib.cells_of_tab (zs := Lib.pow10Tab) (k := .u64) Tryd.underlying113 Tryd.underlying26 (by kernel_rfl) (by kernel_rfl) hd]
theorem of_laidP {W : World} (h : laidMetH Tryd.prog Rows.tracePartsUptoRow.laid W) : Ev W := by
  rw [MakeChecks.laidMetH_plain _ _ _ (by kernel_rfl)] at h
  obtain ⟨ps, ⟨_, _, _, _, _, _, _, _, _, _, ⟨_, _, _, _, _, _, _, _, _, _, ⟨g0, t0, cs0, f0, p0, q0, hg0, ht0, hv0, hd0, ⟨g1, t1, cs1, f1, p1, q1, hg1, ht1, hv1, hd1, ⟨g2, t2, cs2, f2, p2, q2, hg2, ht2, hv2, hd2, _⟩, _⟩, _⟩, _⟩, _⟩, _, _⟩ := h
  exact ⟨Fl.wd_of hg1 ht1 hv1 hd1, tw_of hg2 ht2 hv2 hd2, tab_of hg0 ht0 hv0 hd0⟩
theorem tparts_top {H : Type} {enc : TypeId × Value → H} (v0 : Value) (d0 : DataW H) (p0 : List MemPlace) (v1 : Value) (d1 : DataW H) (p1 : List MemPlace) (v2 : Value) (d2 : DataW H) (p2 : List MemPlace) (W : World) (hE : Ev W) {base base1 base2 : Nat} {r r1 r2 : Reach} {b0 b1 b2 : Nat} {held held1 held2 : Bool}
    (hv0 : Value.okWide Tryd.prog W r b0 22 v0) (k0 : DataW.Trod enc Tryd.prog W base (fun _ => true) held 22 v0 d0 p0) (hv1 : Value.okWide Tryd.prog W r1 b1 22 v1) (k1 : DataW.Trod enc Tryd.prog W base1 (fun _ => true) held1 22 v1 d1 p1) (hv2 : Value.okWide Tryd.prog W r2 b2 22 v2) (k2 : DataW.Trod enc Tryd.prog W base2 (fun _ => true) held2 22 v2 d2 p2)
    (hk : Rows.uptoBulk d0 + (Rows.uptoBulk d1 + Rows.uptoBulk d2) ≤ 1048576) :
    Calls Tryd.prog 4 #[v0, v1, v2] W fun e W' => e = .returned (.bool true) ∧ Below W.heap.size W W' := by
  obtain ⟨xa, ha, hga, na, -⟩ := open_ents hv0 k0
  obtain ⟨xb, hb, hgb, nb, -⟩ := open_ents hv1 k1
  obtain ⟨xc, hc, hgc, nc, -⟩ := open_ents hv2 k2
  exact tparts_walk W v0 v1 v2 (ents xa) (ents xb) (ents xc) (Rd.of ha) (Rd.of hb) (Rd.of hc) na nb nc hE (by omega) (by omega) (by omega)
theorem of_shapeT {W : World} (h : W.ShapedOpen Tryd.prog) : True := trivial
theorem tparts_top2 {H : Type} {enc : TypeId × Value → H} (v0 : Value) (d0 : DataW H) (p0 : List MemPlace) (v1 : Value) (d1 : DataW H) (p1 : List MemPlace) (v2 : Value) (d2 : DataW H) (p2 : List MemPlace) (W : World) (hE : Ev W ∧ True) {base base1 base2 : Nat} {r r1 r2 : Reach} {b0 b1 b2 : Nat} {held held1 held2 : Bool}
    (hv0 : Value.okWide Tryd.prog W r b0 22 v0) (k0 : DataW.Trod enc Tryd.prog W base (fun _ => true) held 22 v0 d0 p0) (hv1 : Value.okWide Tryd.prog W r1 b1 22 v1) (k1 : DataW.Trod enc Tryd.prog W base1 (fun _ => true) held1 22 v1 d1 p1) (hv2 : Value.okWide Tryd.prog W r2 b2 22 v2) (k2 : DataW.Trod enc Tryd.prog W base2 (fun _ => true) held2 22 v2 d2 p2)
    (hk : Rows.uptoBulk d0 + (Rows.uptoBulk d1 + Rows.uptoBulk d2) ≤ 1048576) :
    Calls Tryd.prog 4 #[v0, v1, v2] W fun e W' => e = .returned (.bool true) ∧ Below W.heap.size W W' :=
  tparts_top v0 d0 p0 v1 d1 p1 v2 d2 p2 W hE.1 hv0 k0 hv1 k1 hv2 k2 hk
/-- A row with a bound and laid variables: its witness. -/
theorem witness_cond {H : Type} {enc : TypeId × Value → H} {C : Checked} {os : Os} {f : FuncId} {fn : Func} {s : OpenSpec} {k : (H : Type) → List (DataW H) → Bool} (hk : s.cond = some k) {conds : List PathCond} {apart : Bool} {X : World → Array Value → Prop} (modest : Bool) (w0 : World) (args : Array Value) (fuel : Nat) (hos : w0.os = os)
    (hsh : (w0.forCall (fun _ _ => 0) ⟨#[], args, []⟩).Shaped C.prog)
    (hok : Input.okWideB C.prog (w0.forCall (fun _ _ => 0) ⟨#[], args, []⟩) f ⟨#[], args, []⟩ = true)
    {x : List (DataW H) × List (DataW H) × List MemPlace} (hx : DataW.whole enc C.prog (w0.forCall (fun _ _ => 0) ⟨#[], args, []⟩).memory fn.params.toList s.vars apart args.toList fuel = some x)
    (hconds : conds.all (PathCond.test C.prog ⟨fn.params.toList, x.1, s.bare.plain.varTypes C.prog, x.2.1⟩) = true) (hkk : k H (x.1 ++ x.2.1) = true)
    (hX : X (w0.forCall (fun _ _ => 0) ⟨#[], args, []⟩).memory args)
    (hsz : s.bare.sizedB enc C.prog fn apart (w0.forCall (fun _ _ => 0) ⟨#[], args, []⟩).memory args fuel = true := by kernel_rfl) :
    ∃ (w : World) (tape : Tape) (i : Input), w.os = os ∧ (w.forCall tape i).Shaped C.prog ∧ i.vars = [] ∧ Input.okWide C.prog (w.forCall tape i) .any w.heap.size f i ∧
      ((s.pre enc C.prog fn conds apart (w.forCall tape i).memory i.args ∧ X (w.forCall tape i).memory i.args) ∧ sizedMet enc C.prog fn s apart (w.forCall tape i).memory i.args) ∧ ({ modest := modest } : Assume).holds C.prog (lone (Frame.enter C.prog f i.args .normal) [] (w.forCall tape i)) :=
  ⟨w0, fun _ _ => 0, ⟨#[], args, []⟩, hos, hsh, (Input.okWide_of_okWideB (base := 0) hok).1, (Input.okWide_of_okWideB hok).2,
    ⟨⟨(OpenSpec.pre_some hk conds apart _ _).2 ⟨x.1, x.2.1, x.2.2, DataW.Whole_of_whole hx, hconds, hkk⟩, hX⟩, sizedMet_of_sizedB hsz⟩, by
    simp only [Assume.holds]
    exact ⟨by simp, by simp, fun _ => Modest.zero, by simp, by simp⟩⟩
end Go.Proofs.YtbanfkpfijcmcaaDoor
