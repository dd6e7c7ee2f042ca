/- The walk of FdsetOf. -/
import Derived.Test.YtljfnfaljadjdaaU
namespace Go.Proofs.Ytljfnfaljadjdaa
open Go.RowKit
set_option linter.unusedSimpArgs false
set_option linter.unusedVariables false
attribute [local irreducible] L lst

/-- What the law holds: a set in its box, and its list. -/
structure Fo (w wr : World) (g : Nat) (p q : Nat) (B : Option Addr) : Prop where
  s : Sb wr g p q
  x : Ints .i64 wr B (L p q)
  bel : Below w.heap.size w wr
theorem Fo.later {w wr w1 : World} {g p q : Nat} {B : Option Addr} (T : Fo w wr g p q B) (hb : Below wr.heap.size wr w1) : Fo w w1 g p q B :=
  ⟨T.s.below hb T.s.lt, T.x.below hb, T.bel.trans (hb.mono T.bel.size)⟩
theorem L_len64 (p q : Nat) : (L p q).length ≤ 64 := by unfold L; exact lst_len _ _

set_option maxHeartbeats 4000000 in
theorem of_in (A : Option Addr) (c : Nat) (l : List Int) (n : Int) (w : World) (hz : Ints .i64 w A l) (hl : l.length ≤ 200) (hc : l.length ≤ c) (hin : ∀ x ∈ l, 0 ≤ x ∧ x < 64) :
    Calls Try.prog 4 #[.slice A l.length c, .int .i64 n] w fun e w' => e = .returned (.bool true) ∧ Below w.heap.size w w' := by
  have HZ := Lib.hid hz; clear hz
  have HIN := Lib.hid hin; clear hin
  go_enter Try.func4, Try.ntmps4
  go_wp2_with fail
  refine (fof_ok A c l w HZ.out (by omega) hc HIN.out).mono ?_
  rintro e w1 ⟨rfl, b1⟩
  obtain ⟨hp, hq⟩ := wd_lt l HIN.out
  have hL : lst (inL l) 64 = L (wd l).1 (wd l).2 := by unfold L; exact (lst_congr _ _ 64 (fun i hi => wd_has l HIN.out i hi)).symm
  have HL := Lib.hid hL; clear hL
  generalize (wd l).1 = p at *
  generalize (wd l).2 = q at *
  simp only [sv]
  go_wp2_with fail
  have s1 := Sb.new w1 p q
  have b2 : Below w1.heap.size w1 (w1.alloc (.cells #[.int .u32 p, .int .u32 q] 24)) := (Below.refl _ _).alloc (Nat.le_refl _) _
  have HZ2 := Lib.hid ((HZ.out.below b1).below b2)
  refine (of_ok A c l _ HZ2.out (by omega) hc HIN.out).mono ?_
  rintro e w2 ⟨B, cb, rfl, hcb, I2, b3⟩
  rw [HL.out] at hcb I2 ⊢
  have T2 : Fo w w2 w1.heap.size p q B := ⟨s1.below b3 s1.lt, I2, (b1.trans (b2.mono b1.size)).trans (b3.mono (Nat.le_trans b1.size b2.size))⟩
  clear I2 b3 s1 b1 b2 HZ2 HL
  have hll := L_len64 p q
  obtain ⟨x0, x1⟩ := T2.s.cells
  go_wp2_with fail
  refine (list_L p q _ hp hq).mono ?_
  rintro e w3 ⟨C, cc, rfl, hcc, I3, b3⟩
  have T3 := T2.later b3
  clear T2 b3 x0 x1
  go_wp2_with fail
  refine (same_any C B cc cb (L p q) (L p q) _ I3 T3.x (by omega) (by omega) hcc hcb).mono ?_
  rintro e w4 ⟨he, b4⟩
  rw [same_self] at he
  subst he
  have T4 := T3.later b4
  clear T3 b4 I3 hcc
  obtain ⟨x0, x1⟩ := T4.s.cells
  go_wp2_with fail
  refine (next_any p q n _ hp hq).mono ?_
  rintro e w5 ⟨rfl, b5⟩
  have T5 := T4.later b5
  clear T4 b5 x0 x1
  generalize hnx : nextOf (L p q) n = nx
  have HNX := Lib.hid hnx; clear hnx
  go_wp2_with fail
  refine (rnext_any B cb (L p q) n _ T5.x (by omega) hcb).mono ?_
  rintro e w6 ⟨rfl, rfl⟩
  rw [HNX.out]
  go_wp2_with fail
  have TH := Lib.hid (top_list p q hp hq)
  have LH := Lib.hid (L_length p q hp hq)
  go_loop [13, 58] (fun t i => ∃ k : Nat, k ≤ (L p q).length ∧ i = .int .i64 k ∧ t = .int .i64 (topL ((L p q).take k))) (fun _ i => (L p q).length - (intOf i).toNat)
  case atStart => exact ⟨0, Nat.zero_le _, rfl, rfl⟩
  case round =>
    obtain ⟨k, hk, rfl, rfl⟩ := hrel
    by_cases hlt : k < (L p q).length
    · obtain ⟨b, off, rfl, hb, hcc⟩ := T5.x (by omega)
      have hck := hcc k hlt
      clear hcc
      rw [getD_get _ k hlt] at hck
      have HT := Lib.hid (topL_take (L p q) k hlt)
      generalize hx : (L p q)[k] = x at hck HT
      clear hx
      generalize topL ((L p q).take k) = tt
      go_wp2
      go_round
      case rel => exact ⟨k + 1, by omega, by go_num, by rw [HT.out]⟩
      case measure => simp [intOf]; omega
    · have hk2 : (L p q).take k = L p q := List.take_of_length_le (by omega)
      rw [hk2, ← TH.out]
      clear hk2 hk TH
      obtain ⟨x0, x1⟩ := T5.s.cells
      go_wp2_with fail
      refine (All_any p q _ hp hq).mono ?_
      rintro e w6 ⟨C, cc, rfl, hcc, I6, b6⟩
      have T6 := T5.later b6
      clear T5 b6 x0 x1
      obtain ⟨x0, x1⟩ := T6.s.cells
      go_wp2_with fail
      refine (top_any p q _ hp hq).mono ?_
      rintro e w7 ⟨rfl, b7⟩
      have T7 := T6.later b7
      have I7 := I6.below b7
      clear T6 I6 b7 x0 x1
      generalize topN p q = tn
      obtain ⟨x0, x1⟩ := T7.s.cells
      go_wp2_with fail
      refine (len_any p q _ hp hq).mono ?_
      rintro e w8 ⟨rfl, b8⟩
      have T8 := T7.later b8
      have I8 := I7.below b8
      clear T7 I7 b8 x0 x1
      rw [← LH.out]
      clear LH
      obtain ⟨x0, x1⟩ := T8.s.cells
      go_wp2_with fail
      refine (same_any C B cc cb (L p q) (L p q) _ I8 T8.x (by omega) (by omega) hcc hcb).mono ?_
      rintro e w9 ⟨he, b9⟩
      rw [same_self] at he
      subst he
      have T9 := T8.later b9
      clear T8 I8 b9 x0 x1 hcc
      obtain ⟨x0, x1⟩ := T9.s.cells
      go_wp2_with fail
      refine (below_any p q n _ hp hq).mono ?_
      rintro e w10 ⟨c1, d1, rfl, hcut, b10⟩
      have T10 := T9.later b10
      clear T9 b10 x0 x1
      have hc1 := hcut.hc
      have hd1 := hcut.hd
      have HC := Lib.hid hcut.L; clear hcut
      simp only [sv]
      go_wp2_with fail
      refine (list_L c1 d1 _ hc1 hd1).mono ?_
      rintro e w11 ⟨D, cd, rfl, hcd, I11, b11⟩
      have T11 := T10.later b11
      clear T10 b11
      have hl1 := L_len64 c1 d1
      go_wp2_with fail
      refine (rbelow_any B cb (L p q) n _ T11.x (by omega) hcb).mono ?_
      rintro e w12 ⟨E, ce, rfl, hce, I12, b12⟩
      have T12 := T11.later b12
      have I12' := I11.below b12
      clear T11 I11 b12
      rw [← HC.out] at hce I12 ⊢
      go_wp2_with fail
      refine (same_any D E cd ce (L c1 d1) (L c1 d1) _ I12' I12 (by omega) (by omega) hcd hce).mono ?_
      rintro e w13 ⟨he, b13⟩
      rw [same_self] at he
      subst he
      have T13 := T12.later b13
      clear T12 b13
      go_wp2_with fail
      go_ret
      exact ⟨rfl, T13.bel⟩

theorem eqIn0 (w : World) : (Op.equalIn 10000 24 (.agg #[.int .u32 0, .int .u32 0]) (.agg #[.int .u32 0, .int .u32 0])).run Try.prog w = .ok true w := by kernel_rfl

set_option maxHeartbeats 4000000 in
theorem of_outw (A : Option Addr) (c : Nat) (l : List Int) (n : Int) (w : World) (hz : Ints .i64 w A l) (hl : l.length ≤ 200) (hc : l.length ≤ c) (hin : ∃ x ∈ l, x < 0 ∨ 64 ≤ x) :
    Calls Try.prog 4 #[.slice A l.length c, .int .i64 n] w fun e w' => e = .returned (.bool true) ∧ Below w.heap.size w w' := by
  have HZ := Lib.hid hz; clear hz
  have HIN := Lib.hid hin; clear hin
  go_enter Try.func4, Try.ntmps4
  go_wp2_with fail
  refine (fof_bad A c l w HZ.out (by omega) hc HIN.out).mono ?_
  rintro e w1 ⟨rfl, b1⟩
  simp only [sv]
  go_wp2_with fail
  have s1 := Sb.new w1 0 0
  have b2 : Below w1.heap.size w1 (w1.alloc (.cells #[.int .u32 0, .int .u32 0] 24)) := (Below.refl _ _).alloc (Nat.le_refl _) _
  have HZ2 := Lib.hid ((HZ.out.below b1).below b2)
  refine (of_bad A c l _ HZ2.out (by omega) hc HIN.out).mono ?_
  rintro e w2 ⟨rfl, rfl⟩
  have B2 := b1.trans (b2.mono b1.size)
  obtain ⟨x0, x1⟩ := s1.cells
  clear HZ2 b1 b2
  go_wp2_with fail
  refine (list_zero _).mono ?_
  rintro e w3 ⟨C, cc, rfl, b3⟩
  have s3 := s1.below b3 s1.lt
  have B3 := B2.trans (b3.mono B2.size)
  clear s1 B2 b3 x0 x1
  go_wp2_with fail
  refine (same_zero C cc _).mono ?_
  rintro e w4 ⟨rfl, b4⟩
  have s4 := s3.below b4 s3.lt
  have B4 := B3.trans (b4.mono B3.size)
  clear s3 B3 b4
  obtain ⟨x0, x1⟩ := s4.cells
  have E0 := eqIn0
  go_wp2_with fail
  go_ret
  exact ⟨rfl, B4⟩

theorem of_top (A : Option Addr) (len cap : Nat) (zs : List Int) (n : Int) (w : World) (h : IsRow .i64 w A len cap zs) (wn : (Lit.int .i64 n).wf = true) :
    Calls Try.prog 4 #[.slice A len cap, .int .i64 n] w fun e w' => e = .returned (.bool true) ∧ Below w.heap.size w w' := by
  obtain ⟨l, rfl, hc, hm, hz, hw⟩ := h.ints
  by_cases hl : l.length ≤ 200
  · by_cases hin : ∀ x ∈ l, 0 ≤ x ∧ x < 64
    · exact of_in A cap l n w hz hl hc hin
    · refine of_outw A cap l n w hz hl hc ?_
      apply Classical.byContradiction
      intro hno
      apply hin
      intro x hx
      apply Classical.byContradiction
      intro h2
      exact hno ⟨x, hx, by omega⟩
  · unfold maxLen at hm
    clear hz hw h
    go_enter Try.func4, Try.ntmps4
    go_wp2
    go_ret
    exact ⟨rfl, Below.refl _ _⟩
end Go.Proofs.Ytljfnfaljadjdaa
