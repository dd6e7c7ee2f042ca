/- The calls that came in. -/
import Derived.Test.YtllolfbjmpaamaaNx
import Derived.Test.YtllolfbjmpaamaaJ
namespace Go.Proofs.Ytllolfbjmpaamaa
open Go.ChangeShapes Go.WideShapes Go.ChangeAt Go.RowKit
set_option linter.unusedSimpArgs false
set_option linter.unusedVariables false
set_option maxRecDepth 100000

/-- A call. -/
structure OpV where
  kd : Int
  ev : Int
  fd : Int
  wn : Int
def OpV.cells (o : OpV) : List Value := [.int .i64 o.kd, .int .i64 o.ev, .int .i64 o.fd, .int .i64 o.wn]
structure OpV.ok (o : OpV) : Prop where
  k : (Lit.int .i64 o.kd).wf = true
  e : (Lit.int .i64 o.ev).wf = true
  f : (Lit.int .i64 o.fd).wf = true
  w : (Lit.int .i64 o.wn).wf = true
/-- A slice of calls, as it is read. -/
def OpsAt (w : World) (a : Option Addr) (os : List OpV) : Prop :=
  0 < os.length → ∃ b off, a = some ⟨b, off, none⟩ ∧ b < w.heap.size ∧ ∀ i (h : i < os.length), ∀ j, j < 4 → w.cell? ⟨b, off + i * 4 + j, none⟩ = os[i].cells[j]?

theorem list4 {α : Type} (l : List α) (h : l.length = 4) : ∃ a b c d, l = [a, b, c, d] := by
  match l, h with
  | [a, b, c, d], _ => exact ⟨a, b, c, d, rfl⟩
theorem cells3 : Try.prog.cellsOf 3 = 1 := by kernel_rfl
theorem cells35 : Try.prog.cellsOf 35 = 4 := by kernel_rfl

section
variable {H : Type} {enc : TypeId × Value → H} {w : World} {base : Nat} {held : Bool}
theorem open_op {n : Nat} {cs : List Value} {x : DataW H × List MemPlace} (h : DataW.trod enc Try.prog w base (fun _ => true) held n 35 cs = some x) : ∃ o : OpV, cs = o.cells ∧ o.ok := by
  obtain ⟨xs, n', _, _, hlen, hxl, hf⟩ := DataW.trod_struct Try.underlying35 h
  rw [cells35] at hlen
  obtain ⟨c0, c1, c2, c3, rfl⟩ := list4 cs hlen
  have hx : ∀ i, i < 4 → xs[i]? = some (xs[i]?.getD (.nil, [])) := by
    intro i hi
    have : i < xs.length := by rw [hxl]; exact hi
    rw [List.getElem?_eq_getElem this]; rfl
  have h0 := (hf 0 _ rfl).trans (hx 0 (by omega))
  have h1 := (hf 1 _ rfl).trans (hx 1 (by omega))
  have h2 := (hf 2 _ rfl).trans (hx 2 (by omega))
  have h3 := (hf 3 _ rfl).trans (hx 3 (by omega))
  simp only [List.getElem_toArray, List.getElem_cons_zero, List.getElem_cons_succ, cells3, List.drop_zero, List.drop_succ_cons, List.take_succ_cons, List.take_zero] at h0 h1 h2 h3
  obtain ⟨a0, e0, _, w0⟩ := DataW.trod_int Try.underlying3 h0
  obtain ⟨a1, e1, _, w1⟩ := DataW.trod_int Try.underlying3 h1
  obtain ⟨a2, e2, _, w2⟩ := DataW.trod_int Try.underlying3 h2
  obtain ⟨a3, e3, _, w3⟩ := DataW.trod_int Try.underlying3 h3
  simp at e0 e1 e2 e3
  subst e0 e1 e2 e3
  exact ⟨⟨a0, a1, a2, a3⟩, rfl, w0, w1, w2, w3⟩

theorem open_ops {v : Value} {d : DataW H} {p : List MemPlace} {r : Reach} {b0 : Nat} (hv : Value.okWide Try.prog w r b0 22 v) (h : DataW.Trod enc Try.prog w base (fun _ => true) held 22 v d p) :
    ∃ (a : Option Addr) (cap : Nat) (os : List OpV), v = .slice a os.length cap ∧ os.length ≤ maxLen ∧ OpsAt w a os ∧ ∀ o ∈ os, o.ok := by
  obtain ⟨a, len, cap, rfl⟩ := okWide_slice Try.underlying22 hv
  obtain ⟨fuel, hf⟩ := h
  rcases Deep.open_slice Try.underlying22 hf with ⟨hcs, _⟩ | ⟨ad, l, c, m, n, D, Pl, hcs, _, hl, hm, hmm, _, hi⟩
  · simp [Value.cells] at hcs
    obtain ⟨rfl, rfl, rfl⟩ := hcs
    exact ⟨none, 0, [], rfl, Nat.zero_le _, fun h => absurd h (Nat.lt_irrefl _), fun _ h => absurd h (List.not_mem_nil)⟩
  · simp [Value.cells] at hcs
    obtain ⟨rfl, rfl, rfl⟩ := hcs
    have hlm : len ≤ m := by rw [hmm]; split <;> omega
    have ex : ∀ i, ∃ o : OpV, i < len → o.ok ∧ ∀ j, j < 4 → w.cell? ((ad.add (i * 4)).add j) = o.cells[j]? := by
      intro i
      by_cases hil : i < len
      · obtain ⟨cs', hc, ht⟩ := hi i (by omega)
        rw [cells35] at hc
        obtain ⟨o, rfl, ho⟩ := open_op ht
        obtain ⟨_, _, hat⟩ := World.cells?_some hc
        exact ⟨o, fun _ => ⟨ho, fun j hj => hat j hj⟩⟩
      · exact ⟨⟨0, 0, 0, 0⟩, fun h => absurd h hil⟩
    obtain ⟨O, hO⟩ := Classical.axiomOfChoice ex
    refine ⟨some ad, cap, (List.range len).map O, by simp, by simp; omega, fun h0 => ?_, fun o ho => ?_⟩
    · simp only [List.length_map, List.length_range] at h0
      have h00 := (hO 0 h0).2 0 (by omega)
      have hsome : (O 0).cells[0]? = some (.int .i64 (O 0).kd) := rfl
      rw [hsome] at h00
      obtain ⟨hb, hs⟩ := cell_lt h00
      obtain ⟨b, off, spot⟩ := ad
      simp [Addr.add] at hb hs
      subst hs
      refine ⟨b, off, rfl, hb, fun i hi j hj => ?_⟩
      simp only [List.length_map, List.length_range] at hi
      simp only [List.getElem_map, List.getElem_range]
      have := (hO i hi).2 j hj
      rw [add_plain, add_plain] at this
      exact this
    · obtain ⟨i, hi, rfl⟩ := List.mem_map.1 ho
      exact (hO i (by simpa using hi)).1
end

theorem OpsAt.below {w w' : World} {a : Option Addr} {os : List OpV} (h : OpsAt w a os) (hb : Below w.heap.size w w') : OpsAt w' a os := by
  intro h0
  obtain ⟨b, off, e, hlt, hc⟩ := h h0
  exact ⟨b, off, e, Nat.lt_of_lt_of_le hlt hb.size, fun i hi j hj => (hb.cell (p := ⟨b, off + i * 4 + j, none⟩) hlt).trans (hc i hi j hj)⟩
/-- The cells of one of the calls. -/
theorem OpsAt.at {w : World} {a : Option Addr} {os : List OpV} (h : OpsAt w a os) (k : Nat) (hk : k < os.length) : ∃ b off, a = some ⟨b, off, none⟩ ∧ b < w.heap.size ∧
    ∀ W : World, Below w.heap.size w W → W.cell? ⟨b, off + k * 4, none⟩ = some (.int .i64 os[k].kd) ∧ W.cell? ⟨b, off + k * 4 + 1, none⟩ = some (.int .i64 os[k].ev) ∧ W.cell? ⟨b, off + k * 4 + 2, none⟩ = some (.int .i64 os[k].fd) ∧ W.cell? ⟨b, off + k * 4 + 3, none⟩ = some (.int .i64 os[k].wn) := by
  obtain ⟨b, off, e, hlt, hc⟩ := h (by omega)
  refine ⟨b, off, e, hlt, fun W hb => ?_⟩
  have key := fun j hj => (hb.cell (p := ⟨b, off + k * 4 + j, none⟩) hlt).trans (hc k hk j hj)
  exact ⟨key 0 (by omega), key 1 (by omega), key 2 (by omega), key 3 (by omega)⟩
theorem OpsAt.one {w : World} {a : Option Addr} {os : List OpV} (h : OpsAt w a os) (ho : ∀ o ∈ os, o.ok) (k : Nat) (hk : k < os.length) : ∃ (o : OpV) (b off : Nat), os[k]? = some o ∧ o.ok ∧ a = some ⟨b, off, none⟩ ∧ b < w.heap.size ∧
    ∀ W : World, Below w.heap.size w W → W.cell? ⟨b, off + k * 4, none⟩ = some (.int .i64 o.kd) ∧ W.cell? ⟨b, off + k * 4 + 1, none⟩ = some (.int .i64 o.ev) ∧ W.cell? ⟨b, off + k * 4 + 2, none⟩ = some (.int .i64 o.fd) ∧ W.cell? ⟨b, off + k * 4 + 3, none⟩ = some (.int .i64 o.wn) := by
  obtain ⟨b, off, e, hlt, hc⟩ := h.at k hk
  exact ⟨os[k], b, off, List.getElem?_eq_getElem hk, ho _ (List.getElem_mem hk), e, hlt, hc⟩
end Go.Proofs.Ytllolfbjmpaamaa
