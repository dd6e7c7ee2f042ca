/- The walk of FdsetTurns. -/
import Derived.Test.YtljfnfaljadjdaaG
namespace Go.Proofs.Ytljfnfaljadjdaa
open Go.RowKit
set_option linter.unusedSimpArgs false
set_option linter.unusedVariables false

/-- What the law holds: two sets in boxes, and their lists. -/
structure Tn (w wr : World) (g h : Nat) (a b c d : Nat) (A B : Option Addr) : Prop where
  s : Sb wr g a b
  t : Sb wr h c d
  x : Ints .i64 wr A (L a b)
  y : Ints .i64 wr B (L c d)
  bel : Below w.heap.size w wr
theorem Tn.later {w wr w1 : World} {g h a b c d : Nat} {A B : Option Addr} (T : Tn w wr g h a b c d A B) (hb : Below wr.heap.size wr w1) : Tn w w1 g h a b c d A B :=
  ⟨T.s.below hb T.s.lt, T.t.below hb T.t.lt, T.x.below hb, T.y.below hb, T.bel.trans (hb.mono T.bel.size)⟩
theorem wi_lt (a fd : Nat) (ha : a < 4294967296) (h : fd < 64) : wiA a fd < 4294967296 := by
  unfold wiA; split
  · exact or_lt _ _ ha (by omega)
  · exact ha
theorem wi_lt' (a fd : Nat) (ha : a < 4294967296) (h : fd < 64) : wiB a fd < 4294967296 := by
  unfold wiB; split
  · exact ha
  · exact or_lt _ _ ha (by omega)
theorem wo_lt (a fd : Nat) (ha : a < 4294967296) : woA a fd < 4294967296 := by
  unfold woA; split
  · exact and_lt _ _ ha
  · exact ha
theorem wo_lt' (a fd : Nat) (ha : a < 4294967296) : woB a fd < 4294967296 := by
  unfold woB; split
  · exact ha
  · exact and_lt _ _ ha
theorem undrew_below {w w' : World} (h : Below w.drew.heap.size w.drew w') : Below w.heap.size w w' := ⟨h.os, h.tape, h.output, h.size, h.block⟩

theorem same_self (l : List Int) : decide (l = l) = true := by simp
theorem list_L (a b : Nat) (w : World) (ha : a < 4294967296) (hb : b < 4294967296) : Calls Try.prog 5 #[.agg #[.int .u32 a, .int .u32 b]] w (RetL (L a b) w) := list_any a b w ha hb

theorem some4_one (A : Option Addr) (c : Nat) (l : List Int) (n : Int) (w : World) (hz : Ints .i64 (w.alloc (.cells #[.int .i64 n] 3)) A l) (hl : l.length ≤ 300) (hc : l.length ≤ c) :
    Calls Try.prog 10 #[.slice A l.length c, .slice (some ⟨w.heap.size, 0, none⟩) 1 1, .int .i64 4] (w.alloc (.cells #[.int .i64 n] 3)) (RetL (lst (some4P l [n]) 64) (w.alloc (.cells #[.int .i64 n] 3))) :=
  some4 A (some ⟨w.heap.size, 0, none⟩) c 1 l [n] _ hz (fun _ => ⟨w.heap.size, 0, rfl, by simp, fun i hi => by
    have : i = 0 := by simp at hi; omega
    subst this; simp⟩) hl (by simp) hc (by simp)

theorem list_zero (w : World) : Calls Try.prog 5 #[.agg #[.int .u32 0, .int .u32 0]] w fun e w' => ∃ A c, e = .returned (.slice A 0 c) ∧ Below w.heap.size w w' :=
  (list_L 0 0 w (by decide) (by decide)).mono (by
    rintro e w' ⟨A, c, he, _, _, hb⟩
    rw [L_zero] at he
    exact ⟨A, c, he, hb⟩)
theorem same_zero (A : Option Addr) (c : Nat) (w : World) : Calls Try.prog 8 #[.slice A 0 c, .slice none 0 0] w fun e w' => e = .returned (.bool true) ∧ Below w.heap.size w w' :=
  (same_any A none c 0 [] [] w (fun h => absurd h (by simp)) (fun h => absurd h (by simp)) (by simp) (by simp) (by simp) (by simp)).mono (by
    rintro e w' ⟨he, hb⟩
    exact ⟨by rw [he]; rfl, hb⟩)

attribute [local irreducible] L lst

set_option maxHeartbeats 3000000 in
theorem turns_in (a b c d : Nat) (fd : Nat) (w : World) (ha : a < 4294967296) (hb : b < 4294967296) (hc : c < 4294967296) (hd : d < 4294967296) (h1 : fd < 64) :
    Calls Try.prog 3 #[.agg #[.int .u32 a, .int .u32 b], .agg #[.int .u32 c, .int .u32 d], .int .i64 fd] w fun e w' => e = .returned (.bool true) ∧ Below w.heap.size w w' := by
  obtain ⟨i3, hi3, hz3, hs3, hy3⟩ := info_parts info3
  have I3 := Lib.hid hi3; have Z3 := Lib.hid hz3; have S3 := Lib.hid hs3; have Y3 := Lib.hid hy3
  clear hi3 hz3 hs3 hy3
  obtain ⟨W, hW⟩ : ∃ W, W = (w.alloc (.cells #[.int .u32 a, .int .u32 b] 24)).alloc (.cells #[.int .u32 c, .int .u32 d] 24) := ⟨_, rfl⟩
  have s0 : Sb W w.heap.size a b := by
    rw [hW]; exact (Sb.new w a b).below ((Below.refl _ _).alloc (Nat.le_refl _) _) (by simp)
  have t0 : Sb W (w.heap.size + 1) c d := by
    rw [hW]; have := Sb.new (w.alloc (.cells #[.int .u32 a, .int .u32 b] 24)) c d; simpa using this
  have bw : Below w.heap.size w W := by
    rw [hW]; exact ((Below.refl _ _).alloc (Nat.le_refl _) _).alloc (by simp) _
  have HW := Lib.hid hW
  go_enter Try.func3, Try.ntmps3
  go_wp2_with fail
  rw [← HW.out]
  clear hW HW
  obtain ⟨x0, x1⟩ := s0.cells
  obtain ⟨x2, x3⟩ := t0.cells
  go_region_held3 (fun w' => w'.cell? ⟨w.heap.size, 0, none⟩ = some (.int .u32 a) ∧ w'.cell? ⟨w.heap.size, 1, none⟩ = some (.int .u32 b) ∧ w'.cell? ⟨w.heap.size + 1, 0, none⟩ = some (.int .u32 c) ∧ w'.cell? ⟨w.heap.size + 1, 1, none⟩ = some (.int .u32 d))
    (first | exact ⟨x0, x1, x2, x3⟩ | exact ⟨y0, y1, y2, y3⟩ | exact ⟨v0, v1, v2, v3⟩)
    (first
      | (go_at_call 5; have _z := y0; clear _z; refine (list_L c d _ hc hd).mono ?_; rintro e w8 ⟨B, cb, rfl, hcb, hB, B8⟩; have s8 := s7.below B8 s7.lt; have t8 := t7.below B8 t7.lt; obtain ⟨v0, v1⟩ := s8.cells; obtain ⟨v2, v3⟩ := t8.cells)
      | (go_at_call 5; refine (list_L a b _ ha hb).mono ?_; rintro e w7 ⟨A, ca, rfl, hca, hA, hb7⟩; have B7 := undrew_below hb7; clear hb7; have s7 := s0.below B7 s0.lt; have t7 := t0.below B7 t0.lt; obtain ⟨y0, y1⟩ := s7.cells; obtain ⟨y2, y3⟩ := t7.cells))
  have T : Tn w w8 w.heap.size (w.heap.size + 1) a b c d A B := ⟨s8, t8, Ints.below hA B8, hB, bw.trans ((B7.mono bw.size).trans (B8.mono (Nat.le_trans bw.size B7.size)))⟩
  clear s8 t8 hA hB bw B8 B7 s7 t7 y0 y1 y2 y3 x0 x1 x2 x3 s0 t0
  go_wp2_with fail
  refine (with_yes a b fd _ ha hb (by omega) (by omega)).mono ?_
  rintro e w9 ⟨rfl, b9⟩
  have T9 := T.later b9
  clear T b9 v0 v1 v2 v3
  simp only [sv]
  have hfn : ((fd : Nat) : Int).toNat = fd := by omega
  rw [hfn]
  clear hfn
  have HP1 := Lib.hid (turns_with a b fd h1)
  have hp1 : wiA a fd < 4294967296 := wi_lt a fd ha h1
  have hq1 : wiB b fd < 4294967296 := wi_lt' b fd hb h1
  generalize wiA a fd = p at *
  generalize wiB b fd = q at *
  have u9 : Sb (w9.alloc (.cells #[.int .u32 p, .int .u32 q] 24)) w9.heap.size p q := Sb.new _ _ _
  have T9' : Tn w (w9.alloc (.cells #[.int .u32 p, .int .u32 q] 24)) w.heap.size (w.heap.size + 1) a b c d A B := T9.later ((Below.refl _ _).alloc (Nat.le_refl _) _)
  have hsz : (w9.alloc (.cells #[.int .u32 p, .int .u32 q] 24)).heap.size = w9.heap.size + 1 := by simp
  have hll := L_len a b
  generalize hw9 : w9.alloc (.cells #[.int .u32 p, .int .u32 q] 24) = w9'
  rw [hw9] at u9 T9' hsz
  have HW9 := Lib.hid hw9
  clear hw9
  have R0 := Build.empty w9' (w9.heap.size + 1) hsz.symm
  have V0 := Lib.hid (Ints.below T9'.x ((Below.refl _ _).alloc (Nat.le_refl _) (.cells #[] 3)))
  clear T9
  have HS := Lib.hid hsz; clear hsz
  go_wp2_with (at_builtin; first
    | (have _z := R1; clear _z; refine wpList_append_own _ rfl (.tmp 26) (.tmp 28) 25 rfl (w9.heap.size + 1) 3 i3 (.int .i64 0) 1 8 Try.underlying25 I3.out Z3.out S3.out Y3.out rfl (by decide) _ _ _ rfl (R1.row.alloc _) ⟨w10.heap.size, 0, none⟩ 1 1 [.int .i64 fd] rfl rfl (cell_one_new _ _ _) (by simp [Value.oneCell']) (by unfold maxLen; omega) (by omega) (by have := R1.sz; simp; omega) ?_; intro v2 w11 hown hgrow _; have R2 := R1.put hown hgrow; clear hown hgrow R1; obtain ⟨l2, hl2⟩ : ∃ l2, l2 = L a b ++ [(fd : Int)] := ⟨_, rfl⟩; rw [← hl2] at R2; have HL2 := Lib.hid hl2; clear hl2; obtain ⟨A2, c2, rfl, hc2⟩ := row_form R2.row)
    | (rw [HW9.out]; refine append_ints rfl (.tmp 24) (.tmp 25) rfl (w9.heap.size + 1) _ 0 [] rfl R0.row A ca (L a b) rfl V0.out (by omega) R0.sz ?_; intro v1 w10 hown hgrow; have R1 := R0.puts hown hgrow; clear hown hgrow R0; rw [List.nil_append] at R1))
  have hlen2 : l2.length ≤ 300 := by rw [HL2.out]; simp; omega
  refine (of_ok A2 c2 l2 w11 (row_ints R2.row) hlen2 hc2 (by rw [HL2.out]; exact L_app_in a b fd (by omega) (by omega))).mono ?_
  rintro e w12 ⟨A3, c3, rfl, hc3, I12, b12⟩
  have B11 : Below w9'.heap.size w9' w11 := by rw [HS.out]; exact R2.bel
  have T12 := (T9'.later B11).later b12
  have U12 := (u9.below B11 u9.lt).below b12 (u9.below B11 u9.lt).lt
  clear T9' B11 b12 R2 u9
  obtain ⟨x0, x1⟩ := U12.cells
  rw [HL2.out, ← HP1.out] at hc3 I12
  rw [HL2.out, ← HP1.out]
  clear hlen2 hc2
  have hll2 := L_len p q
  go_wp2_with fail
  refine (list_L p q _ hp1 hq1).mono ?_
  rintro e w13 ⟨A4, c4, rfl, hc4, I13, b13⟩
  have T13 := T12.later b13
  have I13' := Ints.below I12 b13
  clear T12 U12 x0 x1
  go_wp2_with fail
  refine (same_any A4 A3 c4 c3 (L p q) (L p q) _ I13 I13' (by omega) (by omega) hc4 hc3).mono ?_
  rintro e w14 ⟨he, b14⟩
  rw [same_self] at he
  subst he
  have T14 := T13.later b14
  clear T13 I13 I13' b13 b14 I12
  obtain ⟨x0, x1⟩ := T14.s.cells
  obtain ⟨x2, x3⟩ := T14.t.cells
  have hll3 := L_len c d
  go_wp2_with fail
  refine (without_yes a b fd _ ha hb (by omega) (by omega)).mono ?_
  rintro e w15 ⟨rfl, b15⟩
  have T15 := T14.later b15
  clear T14 b15 x0 x1 x2 x3
  simp only [sv]
  have hfn : ((fd : Nat) : Int).toNat = fd := by omega
  rw [hfn]
  clear hfn
  have HQ := Lib.hid (turns_without a b fd h1)
  have hp2 : woA a fd < 4294967296 := wo_lt a fd ha
  have hq2 : woB b fd < 4294967296 := wo_lt' b fd hb
  generalize woA a fd = p2 at *
  generalize woB b fd = q2 at *
  have hll4 := L_len p2 q2
  go_wp2_with fail
  refine (list_L p2 q2 _ hp2 hq2).mono ?_
  rintro e w16 ⟨A5, c5, rfl, hc5, I16, b16⟩
  have T16 := T15.later b16
  clear T15 b16
  have I16a := Ints.below I16 ((Below.refl _ _).alloc (Nat.le_refl _) (.cells #[.int .i64 fd] 3))
  have T16a := T16.later ((Below.refl _ _).alloc (Nat.le_refl _) (.cells #[.int .i64 fd] 3))
  clear I16 T16
  go_wp2_with fail
  refine (some4_one A ca (L a b) fd w16 T16a.x (by omega) hca).mono ?_
  rintro e w17 ⟨A6, c6, rfl, hc6, I17, b17⟩
  have T17 := T16a.later b17
  have I17a := Ints.below I16a b17
  clear T16a I16a b17
  rw [← HQ.out] at hc6 I17 ⊢
  go_wp2_with fail
  refine (same_any A5 A6 c5 c6 (L p2 q2) (L p2 q2) _ I17a I17 (by omega) (by omega) hc5 hc6).mono ?_
  rintro e w18 ⟨he, b18⟩
  rw [same_self] at he
  subst he
  have T18 := T17.later b18
  clear T17 I17 I17a b18 hc5 hc6 hll4
  obtain ⟨x0, x1⟩ := T18.s.cells
  obtain ⟨x2, x3⟩ := T18.t.cells
  go_wp2_with fail
  refine (and_any a b c d _ ha hb hc hd).mono ?_
  rintro e w19 ⟨rfl, b19⟩
  have T19 := T18.later b19
  clear T18 b19 x0 x1 x2 x3
  simp only [sv]
  have HQ19 := Lib.hid (turns_and a b c d)
  have hp19 : a &&& c < 4294967296 := and_lt _ _ ha
  have hq19 : b &&& d < 4294967296 := and_lt _ _ hb
  generalize a &&& c = p19 at *
  generalize b &&& d = q19 at *
  have hll19 := L_len p19 q19
  go_wp2_with fail
  refine (list_L p19 q19 _ hp19 hq19).mono ?_
  rintro e w20 ⟨A5, c5, rfl, hc5, I20, b20⟩
  have T20 := T19.later b20
  clear T19 b20
  go_wp2_with fail
  refine (some3 A B ca cb (L a b) (L c d) _ T20.x T20.y (by omega) (by omega) hca hcb).mono ?_
  rintro e w21 ⟨A6, c6, rfl, hc6, I21, b21⟩
  have T21 := T20.later b21
  have J21 := Ints.below I20 b21
  clear T20 I20 b21
  rw [← HQ19.out] at hc6 I21 ⊢
  go_wp2_with fail
  refine (same_any A5 A6 c5 c6 (L p19 q19) (L p19 q19) _ J21 I21 (by omega) (by omega) hc5 hc6).mono ?_
  rintro e w22 ⟨he, b22⟩
  rw [same_self] at he
  subst he
  have T22 := T21.later b22
  clear T21 I21 J21 b22 hc5 hc6 hll19
  obtain ⟨x0, x1⟩ := T22.s.cells
  obtain ⟨x2, x3⟩ := T22.t.cells
  go_wp2_with fail
  refine (or_any a b c d _ ha hb hc hd).mono ?_
  rintro e w23 ⟨rfl, b23⟩
  have T23 := T22.later b23
  clear T22 b23 x0 x1 x2 x3
  simp only [sv]
  have HQ23 := Lib.hid (turns_or a b c d)
  have hp23 : a ||| c < 4294967296 := Nat.or_lt_two_pow (n := 32) ha hc
  have hq23 : b ||| d < 4294967296 := Nat.or_lt_two_pow (n := 32) hb hd
  generalize a ||| c = p23 at *
  generalize b ||| d = q23 at *
  have hll23 := L_len p23 q23
  go_wp2_with fail
  refine (list_L p23 q23 _ hp23 hq23).mono ?_
  rintro e w24 ⟨A5, c5, rfl, hc5, I24, b24⟩
  have T24 := T23.later b24
  clear T23 b24
  go_wp2_with fail
  refine (some1 A B ca cb (L a b) (L c d) _ T24.x T24.y (by omega) (by omega) hca hcb).mono ?_
  rintro e w25 ⟨A6, c6, rfl, hc6, I25, b25⟩
  have T25 := T24.later b25
  have J25 := Ints.below I24 b25
  clear T24 I24 b25
  rw [← HQ23.out] at hc6 I25 ⊢
  go_wp2_with fail
  refine (same_any A5 A6 c5 c6 (L p23 q23) (L p23 q23) _ J25 I25 (by omega) (by omega) hc5 hc6).mono ?_
  rintro e w26 ⟨he, b26⟩
  rw [same_self] at he
  subst he
  have T26 := T25.later b26
  clear T25 I25 J25 b26 hc5 hc6 hll23
  obtain ⟨x0, x1⟩ := T26.s.cells
  obtain ⟨x2, x3⟩ := T26.t.cells
  go_wp2_with fail
  refine (less_any a b c d _ ha hb hc hd).mono ?_
  rintro e w27 ⟨rfl, b27⟩
  have T27 := T26.later b27
  clear T26 b27 x0 x1 x2 x3
  simp only [sv]
  have HQ27 := Lib.hid (turns_less a b c d hc hd)
  have hp27 : a &&& (4294967295 - c) < 4294967296 := and_lt _ _ ha
  have hq27 : b &&& (4294967295 - d) < 4294967296 := and_lt _ _ hb
  generalize a &&& (4294967295 - c) = p27 at *
  generalize b &&& (4294967295 - d) = q27 at *
  have hll27 := L_len p27 q27
  go_wp2_with fail
  refine (list_L p27 q27 _ hp27 hq27).mono ?_
  rintro e w28 ⟨A5, c5, rfl, hc5, I28, b28⟩
  have T28 := T27.later b28
  clear T27 b28
  go_wp2_with fail
  refine (some4 A B ca cb (L a b) (L c d) _ T28.x T28.y (by omega) (by omega) hca hcb).mono ?_
  rintro e w29 ⟨A6, c6, rfl, hc6, I29, b29⟩
  have T29 := T28.later b29
  have J29 := Ints.below I28 b29
  clear T28 I28 b29
  rw [← HQ27.out] at hc6 I29 ⊢
  go_wp2_with fail
  refine (same_any A5 A6 c5 c6 (L p27 q27) (L p27 q27) _ J29 I29 (by omega) (by omega) hc5 hc6).mono ?_
  rintro e w30 ⟨he, b30⟩
  rw [same_self] at he
  subst he
  have T30 := T29.later b30
  clear T29 I29 J29 b30 hc5 hc6 hll27
  go_wp2_with fail
  go_ret
  exact ⟨rfl, T30.bel⟩

set_option maxHeartbeats 3000000 in
theorem turns_outw (a b c d : Nat) (fd : Int) (w : World) (ha : a < 4294967296) (hb : b < 4294967296) (hc : c < 4294967296) (hd : d < 4294967296) (h1 : fd < 0 ∨ 64 ≤ fd) :
    Calls Try.prog 3 #[.agg #[.int .u32 a, .int .u32 b], .agg #[.int .u32 c, .int .u32 d], .int .i64 fd] w fun e w' => e = .returned (.bool true) ∧ Below w.heap.size w w' := by
  have H1 := Lib.hid h1; clear h1
  obtain ⟨i3, hi3, hz3, hs3, hy3⟩ := info_parts info3
  have I3 := Lib.hid hi3; have Z3 := Lib.hid hz3; have S3 := Lib.hid hs3; have Y3 := Lib.hid hy3
  clear hi3 hz3 hs3 hy3
  obtain ⟨W, hW⟩ : ∃ W, W = (w.alloc (.cells #[.int .u32 a, .int .u32 b] 24)).alloc (.cells #[.int .u32 c, .int .u32 d] 24) := ⟨_, rfl⟩
  have s0 : Sb W w.heap.size a b := by
    rw [hW]; exact (Sb.new w a b).below ((Below.refl _ _).alloc (Nat.le_refl _) _) (by simp)
  have t0 : Sb W (w.heap.size + 1) c d := by
    rw [hW]; have := Sb.new (w.alloc (.cells #[.int .u32 a, .int .u32 b] 24)) c d; simpa using this
  have bw : Below w.heap.size w W := by
    rw [hW]; exact ((Below.refl _ _).alloc (Nat.le_refl _) _).alloc (by simp) _
  have HW := Lib.hid hW
  go_enter Try.func3, Try.ntmps3
  go_wp2_with fail
  rw [← HW.out]
  clear hW HW
  obtain ⟨x0, x1⟩ := s0.cells
  obtain ⟨x2, x3⟩ := t0.cells
  go_region_held3 (fun w' => w'.cell? ⟨w.heap.size, 0, none⟩ = some (.int .u32 a) ∧ w'.cell? ⟨w.heap.size, 1, none⟩ = some (.int .u32 b) ∧ w'.cell? ⟨w.heap.size + 1, 0, none⟩ = some (.int .u32 c) ∧ w'.cell? ⟨w.heap.size + 1, 1, none⟩ = some (.int .u32 d))
    (first | exact ⟨x0, x1, x2, x3⟩ | exact ⟨y0, y1, y2, y3⟩ | exact ⟨v0, v1, v2, v3⟩)
    (first
      | (go_at_call 5; have _z := y0; clear _z; refine (list_L c d _ hc hd).mono ?_; rintro e w8 ⟨B, cb, rfl, hcb, hB, B8⟩; have s8 := s7.below B8 s7.lt; have t8 := t7.below B8 t7.lt; obtain ⟨v0, v1⟩ := s8.cells; obtain ⟨v2, v3⟩ := t8.cells)
      | (go_at_call 5; refine (list_L a b _ ha hb).mono ?_; rintro e w7 ⟨A, ca, rfl, hca, hA, hb7⟩; have B7 := undrew_below hb7; clear hb7; have s7 := s0.below B7 s0.lt; have t7 := t0.below B7 t0.lt; obtain ⟨y0, y1⟩ := s7.cells; obtain ⟨y2, y3⟩ := t7.cells))
  have T : Tn w w8 w.heap.size (w.heap.size + 1) a b c d A B := ⟨s8, t8, Ints.below hA B8, hB, bw.trans ((B7.mono bw.size).trans (B8.mono (Nat.le_trans bw.size B7.size)))⟩
  clear s8 t8 hA hB bw B8 B7 s7 t7 y0 y1 y2 y3 x0 x1 x2 x3 s0 t0
  go_wp2_with fail
  refine (with_no a b fd _ H1.out).mono ?_
  rintro e w9 ⟨rfl, b9⟩
  have T9 := T.later b9
  clear T b9 v0 v1 v2 v3
  simp only [sv]
  have u9 : Sb (w9.alloc (.cells #[.int .u32 0, .int .u32 0] 24)) w9.heap.size 0 0 := Sb.new _ 0 0
  have T9' : Tn w (w9.alloc (.cells #[.int .u32 0, .int .u32 0] 24)) w.heap.size (w.heap.size + 1) a b c d A B := T9.later ((Below.refl _ _).alloc (Nat.le_refl _) _)
  have hsz : (w9.alloc (.cells #[.int .u32 0, .int .u32 0] 24)).heap.size = w9.heap.size + 1 := by simp
  have hll := L_len a b
  generalize hw9 : w9.alloc (.cells #[.int .u32 0, .int .u32 0] 24) = w9'
  rw [hw9] at u9 T9' hsz
  have HW9 := Lib.hid hw9
  clear hw9
  have R0 := Build.empty w9' (w9.heap.size + 1) hsz.symm
  have V0 := Lib.hid (Ints.below T9'.x ((Below.refl _ _).alloc (Nat.le_refl _) (.cells #[] 3)))
  clear T9
  have HS := Lib.hid hsz; clear hsz
  go_wp2_with (at_builtin; first
    | (have _z := R1; clear _z; refine wpList_append_own _ rfl (.tmp 26) (.tmp 28) 25 rfl (w9.heap.size + 1) 3 i3 (.int .i64 0) 1 8 Try.underlying25 I3.out Z3.out S3.out Y3.out rfl (by decide) _ _ _ rfl (R1.row.alloc _) ⟨w10.heap.size, 0, none⟩ 1 1 [.int .i64 fd] rfl rfl (cell_one_new _ _ _) (by simp [Value.oneCell']) (by unfold maxLen; omega) (by omega) (by have := R1.sz; simp; omega) ?_; intro v2 w11 hown hgrow _; have R2 := R1.put hown hgrow; clear hown hgrow R1; obtain ⟨l2, hl2⟩ : ∃ l2, l2 = L a b ++ [(fd : Int)] := ⟨_, rfl⟩; rw [← hl2] at R2; have HL2 := Lib.hid hl2; clear hl2; obtain ⟨A2, c2, rfl, hc2⟩ := row_form R2.row)
    | (rw [HW9.out]; refine append_ints rfl (.tmp 24) (.tmp 25) rfl (w9.heap.size + 1) _ 0 [] rfl R0.row A ca (L a b) rfl V0.out (by omega) R0.sz ?_; intro v1 w10 hown hgrow; have R1 := R0.puts hown hgrow; clear hown hgrow R0; rw [List.nil_append] at R1))
  have hlen2 : l2.length ≤ 300 := by rw [HL2.out]; simp; omega
  refine (of_bad A2 c2 l2 w11 (row_ints R2.row) hlen2 hc2 (by rw [HL2.out]; exact L_app_out a b fd H1.out)).mono ?_
  rintro e w12 ⟨rfl, rfl⟩
  have B11 : Below w9'.heap.size w9' w11 := by rw [HS.out]; exact R2.bel
  have T12 := T9'.later B11
  have U12 := u9.below B11 u9.lt
  clear T9' B11 R2 u9
  obtain ⟨x0, x1⟩ := U12.cells
  clear hlen2 hc2
  go_wp2_with fail
  refine (list_zero _).mono ?_
  rintro e w13 ⟨A4, c4, rfl, b13⟩
  have T13 := T12.later b13
  clear T12 U12 x0 x1
  go_wp2_with fail
  refine (same_zero A4 c4 _).mono ?_
  rintro e w14 ⟨rfl, b14⟩
  have T14 := T13.later b14
  clear T13 b13 b14
  obtain ⟨x0, x1⟩ := T14.s.cells
  obtain ⟨x2, x3⟩ := T14.t.cells
  have hll3 := L_len c d
  go_wp2_with fail
  refine (without_no a b fd _ H1.out).mono ?_
  rintro e w15 ⟨rfl, b15⟩
  have T15 := T14.later b15
  clear T14 b15 x0 x1 x2 x3
  simp only [sv]
  have HQ := Lib.hid (turns_out a b fd H1.out)
  have hll4 := L_len a b
  go_wp2_with fail
  refine (list_L a b _ ha hb).mono ?_
  rintro e w16 ⟨A5, c5, rfl, hc5, I16, b16⟩
  have T16 := T15.later b16
  clear T15 b16
  have I16a := Ints.below I16 ((Below.refl _ _).alloc (Nat.le_refl _) (.cells #[.int .i64 fd] 3))
  have T16a := T16.later ((Below.refl _ _).alloc (Nat.le_refl _) (.cells #[.int .i64 fd] 3))
  clear I16 T16
  go_wp2_with fail
  refine (some4_one A ca (L a b) fd w16 T16a.x (by omega) hca).mono ?_
  rintro e w17 ⟨A6, c6, rfl, hc6, I17, b17⟩
  have T17 := T16a.later b17
  have I17a := Ints.below I16a b17
  clear T16a I16a b17
  rw [← HQ.out] at hc6 I17
  rw [← HQ.out]
  go_wp2_with fail
  refine (same_any A5 A6 c5 c6 (L a b) (L a b) _ I17a I17 (by omega) (by omega) hc5 hc6).mono ?_
  rintro e w18 ⟨he, b18⟩
  rw [same_self] at he
  subst he
  have T18 := T17.later b18
  clear T17 I17 I17a b18 hc5 hc6 hll4
  obtain ⟨x0, x1⟩ := T18.s.cells
  obtain ⟨x2, x3⟩ := T18.t.cells
  go_wp2_with fail
  refine (and_any a b c d _ ha hb hc hd).mono ?_
  rintro e w19 ⟨rfl, b19⟩
  have T19 := T18.later b19
  clear T18 b19 x0 x1 x2 x3
  simp only [sv]
  have HQ19 := Lib.hid (turns_and a b c d)
  have hp19 : a &&& c < 4294967296 := and_lt _ _ ha
  have hq19 : b &&& d < 4294967296 := and_lt _ _ hb
  generalize a &&& c = p19 at *
  generalize b &&& d = q19 at *
  have hll19 := L_len p19 q19
  go_wp2_with fail
  refine (list_L p19 q19 _ hp19 hq19).mono ?_
  rintro e w20 ⟨A5, c5, rfl, hc5, I20, b20⟩
  have T20 := T19.later b20
  clear T19 b20
  go_wp2_with fail
  refine (some3 A B ca cb (L a b) (L c d) _ T20.x T20.y (by omega) (by omega) hca hcb).mono ?_
  rintro e w21 ⟨A6, c6, rfl, hc6, I21, b21⟩
  have T21 := T20.later b21
  have J21 := Ints.below I20 b21
  clear T20 I20 b21
  rw [← HQ19.out] at hc6 I21 ⊢
  go_wp2_with fail
  refine (same_any A5 A6 c5 c6 (L p19 q19) (L p19 q19) _ J21 I21 (by omega) (by omega) hc5 hc6).mono ?_
  rintro e w22 ⟨he, b22⟩
  rw [same_self] at he
  subst he
  have T22 := T21.later b22
  clear T21 I21 J21 b22 hc5 hc6 hll19
  obtain ⟨x0, x1⟩ := T22.s.cells
  obtain ⟨x2, x3⟩ := T22.t.cells
  go_wp2_with fail
  refine (or_any a b c d _ ha hb hc hd).mono ?_
  rintro e w23 ⟨rfl, b23⟩
  have T23 := T22.later b23
  clear T22 b23 x0 x1 x2 x3
  simp only [sv]
  have HQ23 := Lib.hid (turns_or a b c d)
  have hp23 : a ||| c < 4294967296 := Nat.or_lt_two_pow (n := 32) ha hc
  have hq23 : b ||| d < 4294967296 := Nat.or_lt_two_pow (n := 32) hb hd
  generalize a ||| c = p23 at *
  generalize b ||| d = q23 at *
  have hll23 := L_len p23 q23
  go_wp2_with fail
  refine (list_L p23 q23 _ hp23 hq23).mono ?_
  rintro e w24 ⟨A5, c5, rfl, hc5, I24, b24⟩
  have T24 := T23.later b24
  clear T23 b24
  go_wp2_with fail
  refine (some1 A B ca cb (L a b) (L c d) _ T24.x T24.y (by omega) (by omega) hca hcb).mono ?_
  rintro e w25 ⟨A6, c6, rfl, hc6, I25, b25⟩
  have T25 := T24.later b25
  have J25 := Ints.below I24 b25
  clear T24 I24 b25
  rw [← HQ23.out] at hc6 I25 ⊢
  go_wp2_with fail
  refine (same_any A5 A6 c5 c6 (L p23 q23) (L p23 q23) _ J25 I25 (by omega) (by omega) hc5 hc6).mono ?_
  rintro e w26 ⟨he, b26⟩
  rw [same_self] at he
  subst he
  have T26 := T25.later b26
  clear T25 I25 J25 b26 hc5 hc6 hll23
  obtain ⟨x0, x1⟩ := T26.s.cells
  obtain ⟨x2, x3⟩ := T26.t.cells
  go_wp2_with fail
  refine (less_any a b c d _ ha hb hc hd).mono ?_
  rintro e w27 ⟨rfl, b27⟩
  have T27 := T26.later b27
  clear T26 b27 x0 x1 x2 x3
  simp only [sv]
  have HQ27 := Lib.hid (turns_less a b c d hc hd)
  have hp27 : a &&& (4294967295 - c) < 4294967296 := and_lt _ _ ha
  have hq27 : b &&& (4294967295 - d) < 4294967296 := and_lt _ _ hb
  generalize a &&& (4294967295 - c) = p27 at *
  generalize b &&& (4294967295 - d) = q27 at *
  have hll27 := L_len p27 q27
  go_wp2_with fail
  refine (list_L p27 q27 _ hp27 hq27).mono ?_
  rintro e w28 ⟨A5, c5, rfl, hc5, I28, b28⟩
  have T28 := T27.later b28
  clear T27 b28
  go_wp2_with fail
  refine (some4 A B ca cb (L a b) (L c d) _ T28.x T28.y (by omega) (by omega) hca hcb).mono ?_
  rintro e w29 ⟨A6, c6, rfl, hc6, I29, b29⟩
  have T29 := T28.later b29
  have J29 := Ints.below I28 b29
  clear T28 I28 b29
  rw [← HQ27.out] at hc6 I29 ⊢
  go_wp2_with fail
  refine (same_any A5 A6 c5 c6 (L p27 q27) (L p27 q27) _ J29 I29 (by omega) (by omega) hc5 hc6).mono ?_
  rintro e w30 ⟨he, b30⟩
  rw [same_self] at he
  subst he
  have T30 := T29.later b30
  clear T29 I29 J29 b30 hc5 hc6 hll27
  go_wp2_with fail
  go_ret
  exact ⟨rfl, T30.bel⟩
end Go.Proofs.Ytljfnfaljadjdaa
