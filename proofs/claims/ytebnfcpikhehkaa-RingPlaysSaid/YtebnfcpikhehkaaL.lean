/- The calls that came in; great. -/
import Derived.Test.YtebnfcpikhehkaaI
import Derived.Deep.Slices
namespace Go.Proofs.Ytebnfcpikhehkaa
open Go.ChangeShapes Go.WideShapes Go.ChangeAt Go.RowKit
set_option linter.unusedSimpArgs false
set_option linter.unusedVariables false
set_option maxRecDepth 100000

/-- A call: its kind, number, and bytes (a slice, and what it reads as). -/
structure OpV where
  kd : Int
  n : Int
  A : Option Addr
  len : Nat
  cap : Nat
  bs : List Int
def OpV.cells (o : OpV) : List Value := [.int .i64 o.kd, .int .i64 o.n, .slice o.A o.len o.cap]
structure OpV.ok (o : OpV) (w : World) : Prop where
  k : (Lit.int .i64 o.kd).wf = true
  n : (Lit.int .i64 o.n).wf = true
  l : o.bs.length = o.len
  c : o.len ≤ o.cap
  m : o.cap ≤ maxLen
  i : Ints .u8 w o.A o.bs
  b : ∀ x ∈ o.bs, 0 ≤ x ∧ x < 256
/-- A slice of calls, as it is read. -/
def OpsAt (w : World) (a : Option Addr) (os : List OpV) : Prop :=
  0 < os.length → ∃ b off, a = some ⟨b, off, none⟩ ∧ b < w.heap.size ∧ ∀ i (h : i < os.length), os[i].ok w ∧ ∀ j, j < 3 → w.cell? ⟨b, off + i * 3 + j, none⟩ = os[i].cells[j]?

theorem list3 {α : Type} (l : List α) (h : l.length = 3) : ∃ a b c, l = [a, b, c] := by
  match l, h with
  | [a, b, c], _ => exact ⟨a, b, c, rfl⟩
theorem cells3 : Try.prog.cellsOf 3 = 1 := by kernel_rfl
theorem cells22 : Try.prog.cellsOf 22 = 1 := by kernel_rfl
theorem cells39 : Try.prog.cellsOf 39 = 3 := by kernel_rfl

section
variable {H : Type} {enc : TypeId × Value → H} {w : World} {base : Nat} {held : Bool}
theorem open_op {n : Nat} {cs : List Value} {x : DataW H × List MemPlace} (h : DataW.trod enc Try.prog w base (fun _ => true) held n 39 cs = some x) : ∃ o : OpV, cs = o.cells ∧ o.ok w := by
  obtain ⟨xs, n', _, _, hlen, hxl, hf⟩ := DataW.trod_struct Try.underlying39 h
  rw [cells39] at hlen
  obtain ⟨c0, c1, c2, rfl⟩ := list3 cs hlen
  have hx : ∀ i, i < 3 → xs[i]? = some (xs[i]?.getD (.nil, [])) := by
    intro i hi
    have : i < xs.length := by rw [hxl]; exact hi
    rw [List.getElem?_eq_getElem this]; rfl
  have h0 := (hf 0 _ rfl).trans (hx 0 (by omega))
  have h1 := (hf 1 _ rfl).trans (hx 1 (by omega))
  have h2 := (hf 2 _ rfl).trans (hx 2 (by omega))
  simp only [List.getElem_toArray, List.getElem_cons_zero, List.getElem_cons_succ, cells3, cells22, List.drop_zero, List.drop_succ_cons, List.take_succ_cons, List.take_zero] at h0 h1 h2
  obtain ⟨a0, e0, _, w0⟩ := DataW.trod_int Try.underlying3 h0
  obtain ⟨a1, e1, _, w1⟩ := DataW.trod_int Try.underlying3 h1
  simp at e0 e1
  subst e0 e1
  obtain ⟨A, len, cap, z, hc2, hrow⟩ : ∃ A len cap z, c2 = .slice A len cap ∧ IsRow .u8 w A len cap z := by
    rcases open_ints Try.underlying22 Try.underlying5 (by kernel_rfl) h2 with ⟨hcs, _⟩ | ⟨x, l, c, zs, hcs, _, hl, hm, hz, _, hcell, hwz⟩
    · simp at hcs
      exact ⟨none, 0, 0, [], hcs, .inl ⟨rfl, rfl, rfl, rfl⟩⟩
    · simp at hcs
      exact ⟨some x, l, c, zs, hcs, .inr ⟨_, rfl, hl, hm, by simpa using hz, hcell, hwz⟩⟩
  subst hc2
  obtain ⟨bs, q1, q2, q3, q4, q5⟩ := row_bytes hrow
  exact ⟨⟨a0, a1, A, len, cap, bs⟩, rfl, w0, w1, q1, q2, q3, q4, q5⟩

theorem open_ops {v : Value} {d : DataW H} {p : List MemPlace} {r : Reach} {b0 : Nat} (hv : Value.okWide Try.prog w r b0 36 v) (h : DataW.Trod enc Try.prog w base (fun _ => true) held 36 v d p) :
    ∃ (a : Option Addr) (cap : Nat) (os : List OpV), v = .slice a os.length cap ∧ os.length ≤ maxLen ∧ OpsAt w a os := by
  obtain ⟨a, len, cap, rfl⟩ := okWide_slice Try.underlying36 hv
  obtain ⟨fuel, hf⟩ := h
  rcases Deep.open_slice Try.underlying36 hf with ⟨hcs, _⟩ | ⟨ad, l, c, m, n, D, Pl, hcs, _, hl, hm, hmm, _, hi⟩
  · simp [Value.cells] at hcs
    obtain ⟨rfl, rfl, rfl⟩ := hcs
    exact ⟨none, 0, [], rfl, Nat.zero_le _, fun h => absurd h (Nat.lt_irrefl _)⟩
  · simp [Value.cells] at hcs
    obtain ⟨rfl, rfl, rfl⟩ := hcs
    have hlm : len ≤ m := by rw [hmm]; split <;> omega
    have ex : ∀ i, ∃ o : OpV, i < len → o.ok w ∧ ∀ j, j < 3 → w.cell? ((ad.add (i * 3)).add j) = o.cells[j]? := by
      intro i
      by_cases hil : i < len
      · obtain ⟨cs', hc, ht⟩ := hi i (by omega)
        rw [cells39] at hc
        obtain ⟨o, rfl, ho⟩ := open_op ht
        obtain ⟨_, _, hat⟩ := World.cells?_some hc
        exact ⟨o, fun _ => ⟨ho, fun j hj => hat j hj⟩⟩
      · exact ⟨⟨0, 0, none, 0, 0, []⟩, fun h => absurd h hil⟩
    obtain ⟨O, hO⟩ := Classical.axiomOfChoice ex
    refine ⟨some ad, cap, (List.range len).map O, by simp, by simp; omega, fun h0 => ?_⟩
    simp only [List.length_map, List.length_range] at h0
    have h00 := (hO 0 h0).2 0 (by omega)
    have hsome : (O 0).cells[0]? = some (.int .i64 (O 0).kd) := rfl
    rw [hsome] at h00
    obtain ⟨hb, hs⟩ := cell_lt h00
    obtain ⟨b, off, spot⟩ := ad
    simp [Addr.add] at hb hs
    subst hs
    refine ⟨b, off, rfl, hb, fun i hi => ?_⟩
    simp only [List.length_map, List.length_range] at hi
    simp only [List.getElem_map, List.getElem_range]
    refine ⟨(hO i hi).1, fun j hj => ?_⟩
    have := (hO i hi).2 j hj
    rw [add_plain, add_plain] at this
    exact this
end

theorem OpsAt.below {w w' : World} {a : Option Addr} {os : List OpV} (h : OpsAt w a os) (hb : Below w.heap.size w w') : OpsAt w' a os := by
  intro h0
  obtain ⟨b, off, e, hlt, hc⟩ := h h0
  refine ⟨b, off, e, Nat.lt_of_lt_of_le hlt hb.size, fun i hi => ⟨?_, fun j hj => (hb.cell (p := ⟨b, off + i * 3 + j, none⟩) hlt).trans ((hc i hi).2 j hj)⟩⟩
  obtain ⟨x1, x2, x3, x4, x5, x6, x7⟩ := (hc i hi).1
  exact ⟨x1, x2, x3, x4, x5, x6.below hb, x7⟩

/-- What great answers. -/
def GreatR (n : Nat) (w : World) (e : Ending) (w' : World) : Prop := (∃ g : Bool, e = .returned (.bool g) ∧ (g = false → n ≤ 100)) ∧ w = w'
theorem GreatR.mk {n : Nat} {w : World} {e : Ending} (g : Bool) (he : e = .returned (.bool g)) (h : n ≤ 100 ∨ g = true) : GreatR n w e w := ⟨⟨g, he, fun h2 => by rcases h with h | h; exact h; rw [h2] at h; cases h⟩, rfl⟩
set_option maxHeartbeats 1000000 in
/-- Are calls more than the statements go through? Where it says no, there are 100 at most. -/
theorem great_any (a : Option Addr) (cap : Nat) (os : List OpV) (w : World) (h : OpsAt w a os) (hm : os.length ≤ maxLen) :
    Calls Try.prog 18 #[.slice a os.length cap] w (GreatR os.length w) := by
  unfold maxLen at hm
  have HO := Lib.hid h; clear h
  generalize hlen : os.length = len at *
  have HL := Lib.hid hlen; clear hlen
  go_enter Try.func18, Try.ntmps18
  go_wp2_with fail
  go_loop [3, 4] (fun n i => ∃ (k : Nat) (x : Int), k ≤ len ∧ i = .int .i64 k ∧ n = .int .i64 x) (fun _ i => len - (intOf i).toNat)
  case atStart => exact ⟨0, 0, by omega, rfl, rfl⟩
  case round =>
    obtain ⟨k, x, hk, rfl, rfl⟩ := hrel
    by_cases hlt : k < len
    · obtain ⟨b, off, rfl, hb, hc⟩ := HO.out (by rw [HL.out]; omega)
      have hcell := (hc k (by rw [HL.out]; omega)).2 2 (by omega)
      have e2 : (os[k]'(by rw [HL.out]; omega)).cells[2]? = some (.slice (os[k]'(by rw [HL.out]; omega)).A (os[k]'(by rw [HL.out]; omega)).len (os[k]'(by rw [HL.out]; omega)).cap) := rfl
      rw [e2] at hcell
      generalize (os[k]'(by rw [HL.out]; omega)).A = A' at hcell
      generalize (os[k]'(by rw [HL.out]; omega)).len = l' at hcell
      generalize (os[k]'(by rw [HL.out]; omega)).cap = c' at hcell
      clear hc e2
      go_wp2_with fail
      go_round
      case rel => exact ⟨k + 1, _, by omega, by go_num, rfl⟩
      case measure => simp [intOf]; omega
    · obtain rfl : k = len := by omega
      by_cases h100 : (k : Int) ≤ 100
      · by_cases h5 : 5000 < x
        · go_wp2_with fail
          go_ret
          exact GreatR.mk _ rfl (.inl (by omega))
        · have h5 : x ≤ 5000 := by omega
          go_wp2_with fail
          go_ret
          exact GreatR.mk _ rfl (.inl (by omega))
      · have h100 : 100 < (k : Int) := by omega
        go_wp2_with fail
        go_ret
        exact GreatR.mk _ rfl (.inr rfl)
end Go.Proofs.Ytebnfcpikhehkaa
