/- The law FdsetNames, walked. -/
import Derived.Test.YtljfnfaljadjdaaDoorNa
namespace Go.Proofs.YtljfnfaljadjdaaDoor
open Go.RowKit
set_option linter.unusedSimpArgs false
set_option linter.unusedVariables false
set_option maxRecDepth 100000

structure NaS (w wr : World) : Prop where
  p : wr.heap[w.heap.size]? = some (.cells (tx.map Value.string).toArray 9)
  bel : Below w.heap.size w wr
theorem NaS.cell {w wr : World} (h : NaS w wr) (i : Nat) (hi : i < 13) : wr.cell? ⟨w.heap.size, i, none⟩ = some (.string (tx.getD i ByteArray.empty)) := by
  have hl : tx.length = 13 := rfl
  unfold World.cell?
  simp only [h.p]
  simp [hl, hi, List.getD]
theorem NaS.below {w wr w1 : World} (h : NaS w wr) (hb : Below wr.heap.size wr w1) : NaS w w1 :=
  ⟨(hb.block _ (Array.getElem?_eq_some_iff.1 h.p).1).trans h.p, h.bel.trans (hb.mono h.bel.size)⟩
/-- The empty set's cell. -/
structure Nm (w wr : World) (g : Nat) : Prop where
  s : Sb wr g 0 0
  bel : Below w.heap.size w wr
theorem Nm.later {w wr w1 : World} {g : Nat} (T : Nm w wr g) (hb : Below wr.heap.size wr w1) : Nm w w1 g := ⟨T.s.below hb T.s.lt, T.bel.trans (hb.mono T.bel.size)⟩
theorem Nm.alloc {w wr : World} {g : Nat} (T : Nm w wr g) (o : Obj) : Nm w (wr.alloc o) g := T.later ((Below.refl _ _).alloc (Nat.le_refl _) _)
theorem one_int (w : World) : Ints .i64 (w.alloc (.cells #[.int .i64 (-1)] 3)) (some ⟨w.heap.size, 0, none⟩) [-1] := by
  intro _
  refine ⟨w.heap.size, 0, rfl, by simp, fun i hi => ?_⟩
  have h : i = 0 := by simp at hi; omega
  subst h
  simp
theorem one_int2 (w : World) (o : Obj) : Ints .i64 ((w.alloc o).alloc (.cells #[.int .i64 (-1)] 3)) (some ⟨w.heap.size + 1, 0, none⟩) [-1] := by
  have := one_int (w.alloc o)
  rwa [World.size_alloc] at this
theorem Sb.full2 {w : World} {g : Nat} (h : Sb w g 4294967295 4294967295) : w.cell? ⟨g, 0, none⟩ = some (.int .u32 4294967295) ∧ w.cell? ⟨g, 1, none⟩ = some (.int .u32 4294967295) := h.cells
/-- Both sets' cells. -/
structure Nn (w wr : World) (g h : Nat) : Prop where
  s : Sb wr g 0 0
  a : Sb wr h 4294967295 4294967295
  bel : Below w.heap.size w wr
theorem Nn.later {w wr w1 : World} {g h : Nat} (T : Nn w wr g h) (hb : Below wr.heap.size wr w1) : Nn w w1 g h := ⟨T.s.below hb T.s.lt, T.a.below hb T.a.lt, T.bel.trans (hb.mono T.bel.size)⟩
theorem Sb.zero {w : World} {g : Nat} (h : Sb w g 0 0) : w.cell? ⟨g, 0, none⟩ = some (.int .u32 0) ∧ w.cell? ⟨g, 1, none⟩ = some (.int .u32 0) := h.cells

set_option maxHeartbeats 8000000 in
theorem names_walk (w : World) (hE : Env w) : Calls Tryd.prog 8 #[] w fun e w' => e = .returned (.bool true) ∧ Below w.heap.size w w' := by
  have HE := Lib.hid hE; clear hE
  have EQ0 : ∀ w, (Op.equalIn 10000 24 (.agg #[.int .u32 0, .int .u32 0]) (.agg #[.int .u32 0, .int .u32 0])).run Tryd.prog w = .ok true w := fun w => eqIn 0 0 0 0 w
  have EQA : ∀ w, (Op.equalIn 10000 24 (.agg #[.int .u32 4294967295, .int .u32 4294967295]) (.agg #[.int .u32 4294967295, .int .u32 4294967295])).run Tryd.prog w = .ok true w := fun w => eqIn 4294967295 4294967295 4294967295 4294967295 w
  go_enter Tryd.func8, Tryd.ntmps8
  go_wp2_with fail
  go_loopw [1, 23] (fun s1 i wr => ∃ k : Nat, k ≤ 13 ∧ s1 = .bool true ∧ i = .int .i64 k ∧ NaS w wr) (fun _ i _ => 13 - (intOf i).toNat)
  case atStart => exact ⟨0, Nat.zero_le _, rfl, rfl, World.alloc_heap_new w _, (Below.refl _ _).alloc (Nat.le_refl _) _⟩
  case round =>
    obtain ⟨k, hk, rfl, rfl, T⟩ := hrel
    have TT := Lib.hid T
    by_cases hlt : k < 13
    · have hck := T.cell k hlt
      have HPn := Lib.hid (fun W hW => parse_no k hlt W hW)
      clear T
      generalize tx.getD k ByteArray.empty = t at hck HPn
      go_wp2_with fail
      refine (HPn.out _ (HE.out.below TT.out.bel)).mono ?_
      rintro e w1 ⟨rfl, b1⟩
      have T1 := Lib.hid ((TT.out.below b1).below ((Below.refl w1.heap.size w1).alloc (Nat.le_refl _) (.cells #[.int .u32 0, .int .u32 0] 24)))
      clear b1 TT hck HPn
      go_wp2_with fail
      go_roundw
      case rel => exact ⟨k + 1, by omega, rfl, by go_num, T1.out⟩
      case measure => simp [intOf]; omega
    · obtain rfl : k = 13 := by omega
      clear T
      go_wp2_with fail
      refine (withX 64 (.inr (by decide)) _).mono ?_
      rintro e w1 ⟨rfl, b1⟩
      have T1 : Hid (Nm w w1 wr.heap.size) := Lib.hid ⟨(Sb.new wr 0 0).below b1 (by simp), (TT.out.bel.alloc TT.out.bel.size _).trans (b1.mono (by simp; have := TT.out.bel.size; omega))⟩
      clear b1 TT
      generalize wr.heap.size = g6 at T1 ⊢
      have A1 := Lib.hid (T1.out.alloc (.cells #[.int .u32 0, .int .u32 0] 24))
      obtain ⟨c0, c1⟩ := A1.out.s.zero
      go_wp2_with fail
      refine (withX (-1) (.inl (by decide)) _).mono ?_
      rintro e w2 ⟨rfl, b2⟩
      have T2 := Lib.hid (A1.out.later b2)
      clear b2 T1 A1 c0 c1
      go_wp2_with fail
      refine (fof_bad (some ⟨w2.heap.size + 1, 0, none⟩) 1 [-1] _ (one_int2 w2 _) (by decide) (by decide) ⟨-1, by simp, .inl (by decide)⟩).mono ?_
      rintro e w3 ⟨rfl, b3⟩
      have T3 := Lib.hid (((T2.out.alloc _).alloc _).later b3)
      clear b3 T2
      simp only [sv]
      go_wp2_with fail
      refine (parse_all _ (HE.out.below (T3.out.alloc _).bel)).mono ?_
      rintro e w4 ⟨rfl, b4⟩
      have T4 := Lib.hid ((T3.out.alloc _).later b4)
      clear b4 T3
      have T5 : Hid (Nn w (w4.alloc (.cells #[.int .u32 4294967295, .int .u32 4294967295] 24)) g6 w4.heap.size) := Lib.hid ⟨(T4.out.alloc _).s, Sb.new w4 4294967295 4294967295, (T4.out.alloc _).bel⟩
      clear T4
      obtain ⟨c0, c1⟩ := T5.out.s.zero
      obtain ⟨d0, d1⟩ := T5.out.a.full2
      go_wp2_with fail
      refine (next1 _).mono ?_
      rintro e w5 ⟨rfl, b5⟩
      have T6 := Lib.hid (T5.out.later b5)
      clear b5 T5 c0 c1 d0 d1
      generalize w4.heap.size = g13 at T6 ⊢
      obtain ⟨c0, c1⟩ := T6.out.s.zero
      obtain ⟨d0, d1⟩ := T6.out.a.full2
      go_wp2_with fail
      refine (next2 _).mono ?_
      rintro e w6 ⟨rfl, b6⟩
      have T7 := Lib.hid (T6.out.later b6)
      clear b6 T6 c0 c1 d0 d1
      obtain ⟨c0, c1⟩ := T7.out.s.zero
      obtain ⟨d0, d1⟩ := T7.out.a.full2
      go_wp2_with fail
      refine (next3 _).mono ?_
      rintro e w7 ⟨rfl, b7⟩
      have T8 := Lib.hid (T7.out.later b7)
      clear b7 T7 c0 c1 d0 d1
      have c0 : ∀ w', Below w7.heap.size w7 w' → w'.cell? ⟨g6, 0, none⟩ = some (.int .u32 0) := fun w' h => (T8.out.later h).s.zero.1
      have c1 : ∀ w', Below w7.heap.size w7 w' → w'.cell? ⟨g6, 1, none⟩ = some (.int .u32 0) := fun w' h => (T8.out.later h).s.zero.2
      have d0 : ∀ w', Below w7.heap.size w7 w' → w'.cell? ⟨g13, 0, none⟩ = some (.int .u32 4294967295) := fun w' h => (T8.out.later h).a.full2.1
      have d1 : ∀ w', Below w7.heap.size w7 w' → w'.cell? ⟨g13, 1, none⟩ = some (.int .u32 4294967295) := fun w' h => (T8.out.later h).a.full2.2
      go_wp2_with fail
      simp only [List.append]
      go_region_held3 (fun w' => Below w7.heap.size w7 w') (first | assumption | exact Below.refl _ _ | exact (Below.refl _ _).drew)
        (first
          | (go_at_call 10; (with_reducible refine (alive_any _).mono ?_); rintro e w8 ⟨rfl, b8⟩; have B8 : Below w7.heap.size w7 w8 := Below.trans (by assumption) (b8.mono (Below.size (by assumption))); clear b8)
          | (go_at_call 18; (with_reducible refine (len1 _).mono ?_); rintro e w8 ⟨rfl, b8⟩; have B8 : Below w7.heap.size w7 w8 := Below.trans (by assumption) (b8.mono (Below.size (by assumption))); clear b8)
          | (go_at_call 22; (with_reducible refine (top1 _).mono ?_); rintro e w8 ⟨rfl, b8⟩; have B8 : Below w7.heap.size w7 w8 := Below.trans (by assumption) (b8.mono (Below.size (by assumption))); clear b8)
          | (go_at_call 21; (with_reducible refine (below1 _).mono ?_); rintro e w8 ⟨rfl, b8⟩; have B8 : Below w7.heap.size w7 w8 := Below.trans (by assumption) (b8.mono (Below.size (by assumption))); clear b8)
          | (go_at_call 21; (with_reducible refine (below2 _).mono ?_); rintro e w8 ⟨rfl, b8⟩; have B8 : Below w7.heap.size w7 w8 := Below.trans (by assumption) (b8.mono (Below.size (by assumption))); clear b8)
          | (go_at_call 12; (with_reducible refine (without1 _).mono ?_); rintro e w8 ⟨rfl, b8⟩; have B8 : Below w7.heap.size w7 w8 := Below.trans (by assumption) (b8.mono (Below.size (by assumption))); clear b8))
      all_goals
        go_wp2_with fail
        go_ret
        exact ⟨rfl, T8.out.bel.trans (Below.mono (by assumption) T8.out.bel.size)⟩
end Go.Proofs.YtljfnfaljadjdaaDoor
