/- Slices cut; the law RingParts. -/
import Derived.Test.YtebnfcpikhehkaaG
namespace Go.Proofs.Ytebnfcpikhehkaa
open Go.RowKit Go.Shelf
set_option linter.unusedSimpArgs false
set_option linter.unusedVariables false
set_option maxRecDepth 100000

theorem wpList_slice {P : Program} {w : World} {ops : Array Oper} {rest : List Oper} {o : Oper} {a : Act} {Q : Exit → Act → World → Prop} (hgd : o.guard = none) (t : TypeId) (x : Operand) (lo hi : Option Operand) (ho : o.op = .slice t x lo hi none) (v : Value)
    (hr : (Instr.sliceAt t (a.eval x) (lo.map a.eval) (hi.map a.eval) none).run P w = .ok v w) (h : wpList P ops Q rest (a.put o.dst v) w) : wpList P ops Q (o :: rest) a w := by
  refine wpList_plain hgd fun K hK => ?_
  unfold Oper.wp
  simp [execOp, ho, hr, Result.andThen]
  exact hK _ _ h
theorem size22 (w : World) : (sizeOf (Try.prog.elem 22)).run Try.prog w = .ok 1 w := by
  have e : Try.prog.elem 22 = 5 := by kernel_rfl
  rw [e]
  have h5 : (Try.prog.info? 5).map (·.size) = some 1 := by kernel_rfl
  obtain ⟨i, hi, hs⟩ := Option.map_eq_some_iff.1 h5
  simp [sizeOf, typeInfo, hi, hs, go_sem]
theorem add_plain (b off n : Nat) : (⟨b, off, none⟩ : Addr).add n = ⟨b, off + n, none⟩ := by
  unfold Addr.add; split
  · rename_i h; subst h; rfl
  · rfl
theorem add_block (a : Addr) (n : Nat) : (a.add n).block = a.block := by unfold Addr.add; split <;> rfl
theorem elem22 : Try.prog.underlying 22 = some (.slice (Try.prog.elem 22)) := by kernel_rfl
theorem cut_hi (A : Option Addr) (len cap n : Nat) (hn : n ≤ len) (hlc : len ≤ cap) : ∃ A', (∀ w, (Instr.sliceAt 22 (.slice A len cap) none (some (.int .i64 (n : Int))) none).run Try.prog w = .ok (.slice A' n cap) w) ∧
    (∀ w zs, Ints .u8 w A zs → zs.length = len → Ints .u8 w A' (zs.take n)) ∧ (∀ b o s, A' = some ⟨b, o, s⟩ → ∃ o s, A = some ⟨b, o, s⟩) := by
  refine ⟨if cap = 0 then A else A.map (·.add (0 * 1)), fun w => ?_, fun w zs h hl h0 => ?_, fun b o s e => ?_⟩
  · rw [run_sliceAt_slice _ _ _ _ _ _ elem22, run_slice_h (w := w) 22 A len cap elem22 .i64 n (by omega) (by omega), size22]
    simp [Result.andThen, sliced]
  · rw [List.length_take] at h0
    obtain ⟨b, off, rfl, hb, hc⟩ := h (by omega)
    refine ⟨b, off, ?_, hb, fun i hi => ?_⟩
    · rw [if_neg (by omega)]; simp [add_plain]
    · rw [List.length_take] at hi
      rw [hc i (by omega), List.getD_eq_getElem?_getD, List.getD_eq_getElem?_getD, List.getElem?_take, if_pos (by omega)]
  · split at e
    · exact ⟨_, _, e⟩
    · cases A with
      | none => cases e
      | some a =>
        have e1 : a.block = b := by
          have e2 := congrArg (Option.map Addr.block) e
          simp [add_block] at e2; exact e2
        obtain ⟨b1, o1, s1⟩ := a; exact ⟨_, _, by rw [← e1]⟩
theorem cut_lo (A : Option Addr) (len cap n : Nat) (hn : n ≤ len) (hlc : len ≤ cap) : ∃ A', (∀ w, (Instr.sliceAt 22 (.slice A len cap) (some (.int .i64 (n : Int))) none none).run Try.prog w = .ok (.slice A' (len - n) (cap - n)) w) ∧
    (∀ w zs, Ints .u8 w A zs → zs.length = len → Ints .u8 w A' (zs.drop n)) ∧ (∀ b o s, A' = some ⟨b, o, s⟩ → ∃ o s, A = some ⟨b, o, s⟩) := by
  refine ⟨if cap = n then A else A.map (·.add (n * 1)), fun w => ?_, fun w zs h hl h0 => ?_, fun b o s e => ?_⟩
  · rw [run_sliceAt_slice _ _ _ _ _ _ elem22, run_slice_l (w := w) 22 A len cap elem22 .i64 n (by omega) (by omega), size22]
    simp [Result.andThen, sliced]
  · rw [List.length_drop] at h0
    obtain ⟨b, off, rfl, hb, hc⟩ := h (by omega)
    refine ⟨b, off + n, ?_, hb, fun i hi => ?_⟩
    · rw [if_neg (by omega)]; simp [add_plain]
    · rw [List.length_drop] at hi
      rw [Nat.add_assoc, hc (n + i) (by omega), List.getD_eq_getElem?_getD, List.getD_eq_getElem?_getD, List.getElem?_drop]
  · split at e
    · exact ⟨_, _, e⟩
    · cases A with
      | none => cases e
      | some a =>
        have e1 : a.block = b := by
          have e2 := congrArg (Option.map Addr.block) e
          simp [add_block] at e2; exact e2
        obtain ⟨b1, o1, s1⟩ := a; exact ⟨_, _, by rw [← e1]⟩

/-- Two parts go in as one does. -/
theorem put_parts (zs : List Int) (C n : Nat) : (zs.take n).take C ++ (zs.drop n).take (C - ((zs.take n).take C).length) = zs.take C := by
  rw [List.take_take, List.length_take]
  by_cases h : C ≤ n
  · rw [Nat.min_eq_left h]
    by_cases h2 : C ≤ zs.length
    · rw [Nat.min_eq_left h2, Nat.sub_self]; simp
    · have : zs.drop n = [] := List.drop_of_length_le (by omega)
      rw [this]; simp
  · rw [Nat.min_eq_right (by omega)]
    by_cases h2 : n ≤ zs.length
    · rw [Nat.min_eq_left h2, ← List.take_add, show n + (C - n) = C by omega]
    · have : zs.drop n = [] := List.drop_of_length_le (by omega)
      rw [this, List.take_nil, List.append_nil, List.take_of_length_le (by omega), List.take_of_length_le (by omega)]
theorem tmod_bd (st : Int) (l : Nat) : ∃ t k : Int, st.tmod ((l : Int) + 1) = t ∧ -(l : Int) ≤ t ∧ t ≤ l ∧ (t + (l : Int) + 1) % ((l : Int) + 1) = k ∧ 0 ≤ k ∧ k ≤ l := by
  have p : (0 : Int) < (l : Int) + 1 := by omega
  have t1 := Int.tmod_lt_of_pos st p
  have t2 : -((l : Int) + 1) < st.tmod ((l : Int) + 1) := by
    rcases Int.le_total 0 st with h | h
    · have := Int.tmod_nonneg ((l : Int) + 1) h; omega
    · have e := Int.neg_tmod (-st) ((l : Int) + 1)
      rw [Int.neg_neg] at e
      have := Int.tmod_lt_of_pos (-st) p
      omega
  exact ⟨_, _, rfl, by omega, by omega, rfl, Int.emod_nonneg _ (by omega), by have := Int.emod_lt_of_pos (st.tmod ((l : Int) + 1) + (l : Int) + 1) p; omega⟩
theorem tmod_1000 (st : Int) : ∃ t k : Int, st.tmod 1000 = t ∧ -999 ≤ t ∧ t ≤ 999 ∧ (t + 1000) % 1000 = k ∧ 0 ≤ k ∧ k ≤ 999 := by
  have t1 := Int.tmod_lt_of_pos st (show (0 : Int) < 1000 by omega)
  have t2 : -1000 < st.tmod 1000 := by
    rcases Int.le_total 0 st with h | h
    · have := Int.tmod_nonneg 1000 h; omega
    · have e := Int.neg_tmod (-st) 1000
      rw [Int.neg_neg] at e
      have := Int.tmod_lt_of_pos (-st) (show (0 : Int) < 1000 by omega)
      omega
  exact ⟨_, _, rfl, by omega, by omega, rfl, by omega, by omega⟩
end Go.Proofs.Ytebnfcpikhehkaa
