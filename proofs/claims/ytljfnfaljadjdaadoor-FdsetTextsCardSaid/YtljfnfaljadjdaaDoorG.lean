/- Append of a list onto a row of the call's own. -/
import Derived.Test.YtljfnfaljadjdaaDoorE
import Derived.Deep.Upon
namespace Go.Proofs.YtljfnfaljadjdaaDoor
open Go.RowKit
set_option linter.unusedSimpArgs false
set_option linter.unusedVariables false

theorem append_ints {ops : Array Oper} {rest : List Oper} {o : Oper} {a : Act} {w : World} {Q : Exit → Act → World → Prop} (hgd : o.guard = none) (s x : Operand)
    (ho : o.op = .call { callee := .builtin .append, args := #[s, x], argTypes := #[31, 31] }) (base : Nat) (v : Value) (n : Nat) (xs : List Value) (hs : a.eval s = v) (hown : w.ownsRow base 3 1 v n xs)
    (A : Option Addr) (c : Nat) (zs : List Int) (hx : a.eval x = .slice A zs.length c) (hz : Ints .i64 w A zs) (hn : n + zs.length ≤ 100000) (hbase : base ≤ w.heap.size)
    (h : ∀ v' w', w'.ownsRow base 3 1 v' (n + zs.length) (xs ++ zs.map (Value.int .i64)) → w.grownBy w' v.ownBlock → wpList Tryd.prog ops Q rest (a.put o.dst v') w') : wpList Tryd.prog ops Q (o :: rest) a w := by
  obtain ⟨i3, hi3, hz3, hs3, hy3⟩ := info_parts info3
  by_cases h0 : 0 < zs.length
  · obtain ⟨b, off, rfl, hb, hc⟩ := hz h0
    refine wpList_append_own _ hgd s x 31 ho base 3 i3 (.int .i64 0) 1 8 Tryd.underlying31 hi3 hz3 hs3 hy3 rfl (by decide) v n xs hs hown ⟨b, off, none⟩ zs.length c (zs.map (Value.int .i64)) hx (by simp) ?_ ?_ (by unfold maxLen; omega) (by omega) hbase ?_
    · intro j u hu
      rw [List.getElem?_map] at hu
      cases hj : zs[j]? with
      | none => rw [hj] at hu; simp at hu
      | some z =>
        rw [hj] at hu
        have hlt : j < zs.length := (List.getElem?_eq_some_iff.1 hj).1
        have := hc j hlt
        simp at hu
        subst hu
        have e : (⟨b, off, none⟩ : Addr).add j = ⟨b, off + j, none⟩ := by simp [Addr.add]
        rw [e, this, List.getD, hj]; rfl
    · intro u hu
      obtain ⟨z, _, rfl⟩ := List.mem_map.1 hu
      rfl
    · intro v' w' h1 h2 _
      exact h v' w' h1 h2
  · have hl : zs = [] := List.eq_nil_of_length_eq_zero (by omega)
    subst hl
    obtain ⟨A', c', hv, hc'⟩ := row_form hown
    refine wpList_plain hgd fun K hK => ?_
    have hrun := run_append_nothing (P := Tryd.prog) w 31 31 o.type 3 i3 Tryd.underlying31 hi3 A' n c' hc' (.slice A 0 c) (by cases A with | none => exact Src.ofNil w Tryd.underlying31 c | some ad => exact Src.ofSlice w Tryd.underlying31 ad 0 c [] (by simp) (by simp) (by simp))
    have hx' : a.eval x = .slice A 0 c := hx
    rw [hv] at hs
    unfold Oper.wp
    simp [execOp, ho, resolve, invoke, builtin, hs, hx', hrun, Result.andThen]
    refine hK _ _ ?_
    rw [← hv]
    exact h v w (by simpa using hown) (grown_refl _ _)

theorem Build.empty (w1 : World) (base : Nat) (h : base = w1.heap.size) : Build w1 (w1.alloc (.cells #[] 3)) base (.slice (some ⟨base, 0, none⟩) 0 0) [] := by
  subst h
  refine ⟨⟨rfl, .inr ⟨w1.heap.size, 0, #[], rfl, Nat.le_refl _, ?_, Nat.le_refl _, by decide, rfl, rfl⟩⟩, by simp, (Below.refl _ _).alloc (Nat.le_refl _) _⟩
  show (w1.heap.push _)[w1.heap.size]? = _
  simp
theorem Build.puts {w wr w1 : World} {base : Nat} {v v' : Value} {l zs : List Int} (h : Build w wr base v l) (hr : w1.ownsRow base 3 1 v' (l.length + zs.length) (l.map (Value.int .i64) ++ zs.map (Value.int .i64))) (g : wr.grownBy w1 v.ownBlock) : Build w w1 base v' (l ++ zs) :=
  ⟨by simpa using hr, Nat.le_trans h.sz g.size, h.bel.grown g h.sz (fun k e => (h.row.lt k e).1)⟩
end Go.Proofs.YtljfnfaljadjdaaDoor
