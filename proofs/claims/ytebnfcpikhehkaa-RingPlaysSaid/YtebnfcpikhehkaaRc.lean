/- The calls that came in, with the bound that the row gives of each slice's length. -/
import Derived.Test.YtebnfcpikhehkaaRb
import Derived.SizedLaws
namespace Go.Proofs.Ytebnfcpikhehkaa
open Go.ChangeShapes Go.WideShapes Go.ChangeAt Go.RowKit
set_option linter.unusedSimpArgs false
set_option linter.unusedVariables false
set_option maxRecDepth 100000

theorem bytes5 : Try.prog.bytesOf 5 = 1 := by kernel_rfl
theorem weightsAll_mem {H : Type} {P : Program} {e : TypeId} : ∀ {l : List (DataW H)} {d : DataW H} {n : Nat}, d ∈ l → n ∈ d.weights P e → n ∈ DataW.weightsAll P e l
  | [], _, _, h, _ => by cases h
  | x :: r, d, n, h, hn => by
    unfold DataW.weightsAll
    rcases List.mem_cons.1 h with rfl | h
    · exact List.mem_append_left _ hn
    · exact List.mem_append_right _ (weightsAll_mem h hn)

section
variable {H : Type} {enc : TypeId × Value → H} {w : World} {base : Nat} {held : Bool}
theorem open_op2 {n : Nat} {cs : List Value} {x : DataW H × List MemPlace} (h : DataW.trod enc Try.prog w base (fun _ => true) held n 39 cs = some x) : ∃ o : OpV, cs = o.cells ∧ o.ok w ∧ ((∀ n ∈ x.1.weights Try.prog 39, n ≤ reachBytes) → o.len ≤ reachBytes ∧ (o.A = none → o.len = 0 ∧ o.cap = 0)) := by
  obtain ⟨o, ho, hok⟩ := open_op h
  refine ⟨o, ho, hok, fun hb => ?_⟩
  obtain ⟨xs, n', _, hx, hlen, hxl, hf⟩ := DataW.trod_struct Try.underlying39 h
  have hx2 : xs[2]? = some (xs[2]?.getD (.nil, [])) := by
    have : 2 < xs.length := by rw [hxl]; decide
    rw [List.getElem?_eq_getElem this]; rfl
  have h2 := (hf 2 _ rfl).trans hx2
  rw [ho] at h2
  simp only [OpV.cells, List.getElem_toArray, List.getElem_cons_zero, List.getElem_cons_succ, cells3, cells22, List.drop_zero, List.drop_succ_cons, List.take_succ_cons, List.take_zero] at h2
  rcases open_ints Try.underlying22 Try.underlying5 (by kernel_rfl) h2 with ⟨hcs, _⟩ | ⟨y, l, c, zs, hcs, _, hl, hm, hz, hd, hcell, hwz⟩
  · simp at hcs
    exact ⟨by rw [hcs.2.1]; exact Nat.zero_le _, fun _ => ⟨hcs.2.1, hcs.2.2⟩⟩
  · simp at hcs hz
    obtain ⟨e1, e2, e3⟩ := hcs
    rw [e2, e1]
    refine ⟨?_, fun h => by cases h⟩
    have hw : ((lits (H := H) .u8 (zs.take l)).length + (lits (H := H) .u8 (zs.drop l)).length) * Try.prog.bytesOf 5 ∈ x.1.weights Try.prog 39 := by
      rw [show x.1 = .agg (xs.map (·.1)) by rw [hx]]
      unfold DataW.weights
      rw [Try.underlying39]
      refine DataW.weights_mem_each (j := 2) (t := 22) (d := (xs[2]?.getD (.nil, [])).1) rfl ?_ _ ?_
      · rw [List.getElem?_map, hx2]; rfl
      · rw [hd]
        simp [DataW.weights, Try.underlying22]
    have := hb _ hw
    rw [bytes5, Nat.mul_one] at this
    simp [lits] at this
    omega
theorem open_ops2 {v : Value} {d : DataW H} {p : List MemPlace} {r : Reach} {b0 : Nat} (hv : Value.okWide Try.prog w r b0 36 v) (h : DataW.Trod enc Try.prog w base (fun _ => true) held 36 v d p) (hs : ∀ n ∈ d.weights Try.prog 36, n ≤ reachBytes) :
    ∃ (a : Option Addr) (cap : Nat) (os : List OpV), v = .slice a os.length cap ∧ os.length ≤ maxLen ∧ OpsAt w a os ∧ ∀ o ∈ os, o.len ≤ reachBytes ∧ (o.A = none → o.len = 0 ∧ o.cap = 0) := by
  obtain ⟨a, len, cap, rfl⟩ := okWide_slice Try.underlying36 hv
  obtain ⟨fuel, hf⟩ := h
  rcases Deep.open_slice Try.underlying36 hf with ⟨hcs, _⟩ | ⟨ad, l, c, m, n, D, Pl, hcs, _, hl, hm, hmm, hx, hi⟩
  · simp [Value.cells] at hcs
    obtain ⟨rfl, rfl, rfl⟩ := hcs
    exact ⟨none, 0, [], rfl, Nat.zero_le _, fun h => absurd h (Nat.lt_irrefl _), fun o ho => by cases ho⟩
  · simp [Value.cells] at hcs
    obtain ⟨rfl, rfl, rfl⟩ := hcs
    have hlm : len ≤ m := by rw [hmm]; split <;> omega
    have hD : ∀ i, i < len → ∀ n ∈ (D i).weights Try.prog 39, n ≤ reachBytes := by
      intro i hil n hn
      apply hs
      have e : d = .slice ((List.range len).map D) ((List.range (m - len)).map fun j => D (len + j)) := by
        have := congrArg Prod.fst hx; simpa using this
      rw [e]
      unfold DataW.weights
      rw [Try.underlying36]
      refine List.mem_cons_of_mem _ (List.mem_append_left _ (weightsAll_mem (d := D i) ?_ hn))
      exact List.mem_map.2 ⟨i, List.mem_range.2 hil, rfl⟩
    have ex : ∀ i, ∃ o : OpV, i < len → o.ok w ∧ (o.len ≤ reachBytes ∧ (o.A = none → o.len = 0 ∧ o.cap = 0)) ∧ ∀ j, j < 3 → w.cell? ((ad.add (i * 3)).add j) = o.cells[j]? := by
      intro i
      by_cases hil : i < len
      · obtain ⟨cs', hc, ht⟩ := hi i (by omega)
        rw [cells39] at hc
        obtain ⟨o, rfl, ho, hb⟩ := open_op2 ht
        obtain ⟨_, _, hat⟩ := World.cells?_some hc
        exact ⟨o, fun _ => ⟨ho, hb (hD i hil), fun j hj => hat j hj⟩⟩
      · exact ⟨⟨0, 0, none, 0, 0, []⟩, fun h => absurd h hil⟩
    obtain ⟨O, hO⟩ := Classical.axiomOfChoice ex
    refine ⟨some ad, cap, (List.range len).map O, by simp, by simp; omega, fun h0 => ?_, fun o ho => ?_⟩
    · simp only [List.length_map, List.length_range] at h0
      have h00 := (hO 0 h0).2.2 0 (by omega)
      have hsome : (O 0).cells[0]? = some (.int .i64 (O 0).kd) := rfl
      rw [hsome] at h00
      obtain ⟨hb, hs⟩ := cell_lt h00
      obtain ⟨b, off, spot⟩ := ad
      simp [Addr.add] at hb hs
      subst hs
      refine ⟨b, off, rfl, hb, fun i hi => ?_⟩
      simp only [List.length_map, List.length_range] at hi
      simp only [List.getElem_map, List.getElem_range]
      refine ⟨(hO i hi).1, fun j hj => ?_⟩
      have := (hO i hi).2.2 j hj
      rw [add_plain, add_plain] at this
      exact this
    · obtain ⟨i, hi, rfl⟩ := List.mem_map.1 ho
      exact (hO i (List.mem_range.1 hi)).2.1
end
end Go.Proofs.Ytebnfcpikhehkaa
