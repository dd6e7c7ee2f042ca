/- A set that came in, opened; the law as the row asks it. -/
import Derived.Test.YtljfnfaljadjdaaDoorF
namespace Go.Proofs.YtljfnfaljadjdaaDoor
open Go.RowKit Go.ChangeShapes Go.WideShapes Go.ChangeAt
set_option linter.unusedSimpArgs false
set_option linter.unusedVariables false
set_option maxRecDepth 100000

theorem list2 {α : Type} (l : List α) (h : l.length = 2) : ∃ a b, l = [a, b] := by
  match l, h with
  | [a, b], _ => exact ⟨a, b, rfl⟩
theorem cells22 : Tryd.prog.cellsOf 22 = 1 := by kernel_rfl
theorem cells24 : Tryd.prog.cellsOf 24 = 2 := by kernel_rfl

section
variable {H : Type} {enc : TypeId × Value → H} {w : World} {base : Nat} {spare : Nat → Bool} {held : Bool}
theorem okWide_set {r : Reach} {b0 : Nat} {v : Value} (h : Value.okWide Tryd.prog w r b0 24 v) : ∃ cs, v = .agg cs ∧ cs.size = Tryd.prog.cellsOf 24 := by
  have ht := Tryd.underlying24
  cases v <;> simp_all [Value.okWide]

theorem open_set {v : Value} {d : DataW H} {p : List MemPlace} {r : Reach} {b0 : Nat} (hv : Value.okWide Tryd.prog w r b0 24 v) (h : DataW.Trod enc Tryd.prog w base spare held 24 v d p) :
    ∃ a b : Nat, v = .agg #[.int .u32 a, .int .u32 b] ∧ a < 4294967296 ∧ b < 4294967296 := by
  obtain ⟨cs, rfl, hcs⟩ := okWide_set hv
  obtain ⟨fuel, hf⟩ := h
  obtain ⟨xs, n', _, _, hlen, hxl, hg⟩ := DataW.trod_array Tryd.underlying24 hf
  rw [cells24] at hlen
  obtain ⟨c0, c1, hl⟩ := list2 _ hlen
  rw [hl] at hg
  have hx : ∀ i, i < 2 → xs[i]? = some (xs[i]?.getD (.nil, [])) := by
    intro i hi
    have : i < xs.length := by rw [hxl]; exact hi
    rw [List.getElem?_eq_getElem this]; rfl
  have h0 := (hg 0 (by omega)).trans (hx 0 (by omega))
  have h1 := (hg 1 (by omega)).trans (hx 1 (by omega))
  simp only [cells22, List.drop_zero, List.drop_succ_cons, List.take_succ_cons, List.take_zero, Nat.zero_mul, Nat.one_mul] at h0 h1
  obtain ⟨a0, e0, _, w0⟩ := DataW.trod_int Tryd.underlying22 h0
  obtain ⟨a1, e1, _, w1⟩ := DataW.trod_int Tryd.underlying22 h1
  simp at e0 e1
  subst e0 e1
  obtain ⟨p0, p1⟩ := bd_u32 w0
  obtain ⟨q0, q1⟩ := bd_u32 w1
  obtain ⟨a, rfl⟩ := Int.eq_ofNat_of_zero_le p0
  obtain ⟨b, rfl⟩ := Int.eq_ofNat_of_zero_le q0
  refine ⟨a, b, ?_, by omega, by omega⟩
  have : cs = #[.int .u32 (a : Int), .int .u32 (b : Int)] := by
    apply Array.ext'
    simpa [Value.cells] using hl
  rw [this]

end
end Go.Proofs.YtljfnfaljadjdaaDoor
