/- line, walked. (Printed by tools/genLn.py.) -/
import Derived.Test.YtbanfkpfijcmcaaGreatDoorLn
import Derived.Deep.AppendLies
namespace Go.Proofs.YtbanfkpfijcmcaaGreatDoor
open Go.RowKit
set_option linter.unusedSimpArgs false
set_option linter.unusedVariables false
set_option maxRecDepth 100000

set_option maxHeartbeats 8000000 in
theorem line_1 (t : Nat) (id fl nn er : Int) (dt : List UInt8) (dv : Value) (w : World) (hE : Ev w) (t1 : t < 18446744073709551616) (n0 : i64ok nn) (e0 : i64ok er) :
    Calls Tryz.prog 30 #[.agg #[.int .i64 1, .int .u64 (t : Int), .int .i64 id, .int .i64 fl, .int .i64 nn, .int .i64 er, dv]] w fun e w' => e = .returned (.string ⟨(lineL ⟨1, t, id, fl, nn, er, dt⟩).toArray⟩) ∧ Below w.heap.size w w' := by
  have HT := Lib.hid (fun W (hW : Below w.heap.size w W) => fmt_any t t1 W (hE.below hW).t)
  have HN := Lib.hid (fun W (hW : Below w.heap.size w W) => itoa_any nn n0.1 n0.2 W (hE.below hW).t)
  have HR := Lib.hid (fun W (hW : Below w.heap.size w W) => itoa_any er e0.1 e0.2 W (hE.below hW).t)
  have HW := Lib.hid (fun W (hW : Below w.heap.size w W) => (hE.below hW).tw)
  have zT := dec_len t t1
  have zN := Lib.itoa_length_le nn n0.1 n0.2
  have zR := Lib.itoa_length_le er e0.1 e0.2
  have HL : Hid (lineL ⟨1, t, id, fl, nn, er, dt⟩ = Lib.join [[116, 117, 114, 110], Lib.decDigits t, Lib.itoa nn] [32]) := Lib.hid (by simp [lineL, lineW, wordL])
  have HZ : Hid ((Lib.join [[116, 117, 114, 110], Lib.decDigits t, Lib.itoa nn] [32]).length ≤ 140737488355328) := Lib.hid (by
    refine Nat.le_trans (Fl.join_len [32] _ 200000 (fun x hx => ?_)) (by simp)
    simp only [List.mem_cons, List.not_mem_nil, or_false] at hx
    rcases hx with rfl | rfl | rfl <;> first | (simp; done) | omega)
  generalize lineL ⟨1, t, id, fl, nn, er, dt⟩ = res at *
  have B0 := Lib.hid ((Below.refl _ w).alloc (Nat.le_refl _) (.cells #[.int .i64 1, .int .u64 (t : Int), .int .i64 id, .int .i64 fl, .int .i64 nn, .int .i64 er, dv] 28))
  have s0 := new_block w (.cells #[.int .i64 1, .int .u64 (t : Int), .int .i64 id, .int .i64 fl, .int .i64 nn, .int .i64 er, dv] 28)
  clear hE
  go_enter Tryz.func30, Tryz.ntmps30
  go_upto_region 1 with (fail)
  generalize w.alloc (.cells #[.int .i64 1, .int .u64 (t : Int), .int .i64 id, .int .i64 fl, .int .i64 nn, .int .i64 er, dv] 28) = W1 at *
  have q0 := (cell_of s0 0).1; have q1 := (cell_of s0 1).1
  simp only [List.getElem?_toArray, List.getElem?_cons_succ, List.getElem?_cons_zero] at q0 q1
  have qw : W1.cell? ⟨0, 1, none⟩ = some (.string ⟨#[116, 117, 114, 110]⟩) := HW.out W1 B0.out 1 (by omega)
  have HQ := Lib.hid (fun W (hW : Below W1.heap.size W1 W) => (⟨(cell_of ((hW.block _ (lt_of_block s0)).trans s0) 0).1, (cell_of ((hW.block _ (lt_of_block s0)).trans s0) 1).1, HW.out W (B0.out.trans (hW.mono B0.out.size)) 1 (by omega)⟩ : W.cell? ⟨w.heap.size, 0, none⟩ = some (.int .i64 1) ∧ W.cell? ⟨w.heap.size, 1, none⟩ = some (.int .u64 (t : Int)) ∧ W.cell? ⟨0, 1, none⟩ = some (.string ⟨#[116, 117, 114, 110]⟩)))
  go_region_held3 (fun W => W.cell? ⟨w.heap.size, 0, none⟩ = some (.int .i64 1) ∧ W.cell? ⟨w.heap.size, 1, none⟩ = some (.int .u64 (t : Int)) ∧ W.cell? ⟨0, 1, none⟩ = some (.string ⟨#[116, 117, 114, 110]⟩))
    (first | exact HQ.out _ (Below.refl _ _) | exact HQ.out _ (Below.refl _ _).drew | exact HQ.out _ C1.out | exact HQ.out _ C1.out.drew | exact HQ.out _ (C1.out.alloc C1.out.size _) | exact HQ.out _ (C1.out.alloc C1.out.size _).drew)
    (first | (go_at_call 42; refine (HT.out _ (by first | exact B0.out | exact B0.out.drew)).mono ?_; rintro e u1 ⟨rfl, b⟩; have C1 : Hid (Below W1.heap.size W1 u1) := Lib.hid (by first | exact b | exact (Below.refl _ _).drew.trans b); clear b))
  have R2 := row_made (base := w.heap.size) (new_block u1 (.cells #[.string ⟨#[116, 117, 114, 110]⟩, .string ⟨(Lib.decDigits t).toArray⟩] 9)) (Nat.le_trans B0.out.size C1.out.size) (by unfold maxLen; simp)
  have B2 : Hid (Below w.heap.size w (u1.alloc (.cells #[.string ⟨#[116, 117, 114, 110]⟩, .string ⟨(Lib.decDigits t).toArray⟩] 9))) := Lib.hid ((B0.out.trans (C1.out.mono B0.out.size)).alloc (Nat.le_trans B0.out.size C1.out.size) _)
  have s2 : (u1.alloc (.cells #[.string ⟨#[116, 117, 114, 110]⟩, .string ⟨(Lib.decDigits t).toArray⟩] 9)).heap[w.heap.size]? = some (.cells #[.int .i64 1, .int .u64 (t : Int), .int .i64 id, .int .i64 fl, .int .i64 nn, .int .i64 er, dv] 28) := (((C1.out.alloc C1.out.size _).block _ (lt_of_block s0)).trans s0)
  generalize u1.alloc (.cells #[.string ⟨#[116, 117, 114, 110]⟩, .string ⟨(Lib.decDigits t).toArray⟩] 9) = W2 at *
  generalize u1.heap.size = g at R2 ⊢
  simp only [List.size_toArray, List.length_cons, List.length_nil] at R2
  have R2' : Hid (W2.ownsRow w.heap.size 9 1 (.slice (some ⟨g, 0, none⟩) 2 2) 2 [.string ⟨#[116, 117, 114, 110]⟩, .string ⟨(Lib.decDigits t).toArray⟩]) := Lib.hid R2
  clear R2 q0 q1 qw HQ s0 C1 B0
  have q0 := (cell_of s2 0).1; have q2 := (cell_of s2 2).1; have q3 := (cell_of s2 3).1; have q4 := (cell_of s2 4).1; have q5 := (cell_of s2 5).1; have q6 := (cell_of s2 6).1
  simp only [List.getElem?_toArray, List.getElem?_cons_succ, List.getElem?_cons_zero] at q0 q2 q3 q4 q5 q6
  go_wp2_with fail
  refine (HN.out _ B2.out).mono ?_
  rintro e W3 ⟨rfl, b⟩
  have s3 := (b.block _ (lt_of_block s2)).trans s2
  have R3 := Lib.hid (row_keep R2'.out b)
  have B3 := Lib.hid (B2.out.trans (b.mono B2.out.size))
  clear b s2 R2' B2 q0 q2 q3 q4 q5 q6
  have q0 := (cell_of s3 0).1; have q2 := (cell_of s3 2).1; have q3 := (cell_of s3 3).1; have q4 := (cell_of s3 4).1; have q5 := (cell_of s3 5).1; have q6 := (cell_of s3 6).1
  simp only [List.getElem?_toArray, List.getElem?_cons_succ, List.getElem?_cons_zero] at q0 q2 q3 q4 q5 q6
  go_wp2_with fail
  refine (HR.out _ B3.out).mono ?_
  rintro e W4 ⟨rfl, b⟩
  have s4 := (b.block _ (lt_of_block s3)).trans s3
  have R4 := Lib.hid (row_keep R3.out b)
  have B4 := Lib.hid (B3.out.trans (b.mono B3.out.size))
  clear b s3 R3 B3 q0 q2 q3 q4 q5 q6
  have q0 := (cell_of s4 0).1; have q2 := (cell_of s4 2).1; have q3 := (cell_of s4 3).1; have q4 := (cell_of s4 4).1; have q5 := (cell_of s4 5).1; have q6 := (cell_of s4 6).1
  simp only [List.getElem?_toArray, List.getElem?_cons_succ, List.getElem?_cons_zero] at q0 q2 q3 q4 q5 q6
  obtain ⟨i9, hi9, hz9, hs9, hy9⟩ := info_parts info9
  have I9 := Lib.hid hi9; have Z9 := Lib.hid hz9; have S9 := Lib.hid hs9; have Y9 := Lib.hid hy9
  clear hi9 hz9 hs9 hy9
  go_wp2_with (at_builtin; refine wpList_append_own _ rfl (.tmp 31) (.tmp 33) 75 rfl w.heap.size 9 i9 _ 1 16 Tryz.underlying75 I9.out Z9.out S9.out Y9.out rfl (by decide) _ _ _ rfl (R4.out.alloc _) ⟨W4.heap.size, 0, none⟩ 1 1 [.string ⟨(Lib.itoa nn).toArray⟩] rfl rfl (World.news_of_block (cs := #[.string ⟨(Lib.itoa nn).toArray⟩]) (t := 9) (fr := (0, 0)) (new_block _ _)) (by simp [Value.oneCell']) (by unfold maxLen; omega) (by omega) (by have := B4.out.size; simp; omega) ?_; intro v' w6 hown hgrow _; have R6 := Lib.hid hown; have G6 := Lib.hid hgrow; clear hown hgrow)
  have B6 : Hid (Below w.heap.size w w6) := Lib.hid (below_append B4.out R4.out G6.out (Nat.le_refl _) B4.out.size)
  go_wp2_with fail
  refine (join_rowL (l := [[116, 117, 114, 110], Lib.decDigits t, Lib.itoa nn]) (by exact R6.out) rfl (by simp) (by simp) HZ.out).mono ?_
  rintro e w7 ⟨rfl, b⟩
  have B7 := Lib.hid (B6.out.trans (b.mono B6.out.size))
  clear b
  go_wp2_with fail
  go_ret
  exact ⟨by rw [HL.out]; rfl, B7.out⟩
set_option maxHeartbeats 8000000 in
theorem line_2 (t : Nat) (id fl nn er : Int) (dt : List UInt8) (dv : Value) (w : World) (hE : Ev w) (t1 : t < 18446744073709551616) (n0 : i64ok nn) (e0 : i64ok er) (i0 : i64ok id) :
    Calls Tryz.prog 30 #[.agg #[.int .i64 2, .int .u64 (t : Int), .int .i64 id, .int .i64 fl, .int .i64 nn, .int .i64 er, dv]] w fun e w' => e = .returned (.string ⟨(lineL ⟨2, t, id, fl, nn, er, dt⟩).toArray⟩) ∧ Below w.heap.size w w' := by
  have HT := Lib.hid (fun W (hW : Below w.heap.size w W) => fmt_any t t1 W (hE.below hW).t)
  have HN := Lib.hid (fun W (hW : Below w.heap.size w W) => itoa_any nn n0.1 n0.2 W (hE.below hW).t)
  have HR := Lib.hid (fun W (hW : Below w.heap.size w W) => itoa_any er e0.1 e0.2 W (hE.below hW).t)
  have HW := Lib.hid (fun W (hW : Below w.heap.size w W) => (hE.below hW).tw)
  have zT := dec_len t t1
  have zN := Lib.itoa_length_le nn n0.1 n0.2
  have zR := Lib.itoa_length_le er e0.1 e0.2
  have HI := Lib.hid (fun W (hW : Below w.heap.size w W) => itoa_any id i0.1 i0.2 W (hE.below hW).t)
  have zI := Lib.itoa_length_le id i0.1 i0.2
  have HF := Lib.hid (fun W (hW : Below w.heap.size w W) => Fl.Text_any fl W (hE.below hW).f)
  unfold Fl.RT at HF
  have zF := tx_len fl
  have HL : Hid (lineL ⟨2, t, id, fl, nn, er, dt⟩ = Lib.join [[114, 117, 110], Lib.decDigits t, Lib.itoa id, Fl.txL 0 fl, Lib.itoa nn] [32]) := Lib.hid (by simp [lineL, lineW, wordL])
  have HZ : Hid ((Lib.join [[114, 117, 110], Lib.decDigits t, Lib.itoa id, Fl.txL 0 fl, Lib.itoa nn] [32]).length ≤ 140737488355328) := Lib.hid (by
    refine Nat.le_trans (Fl.join_len [32] _ 200000 (fun x hx => ?_)) (by simp)
    simp only [List.mem_cons, List.not_mem_nil, or_false] at hx
    rcases hx with rfl | rfl | rfl | rfl | rfl <;> first | (simp; done) | omega)
  generalize lineL ⟨2, t, id, fl, nn, er, dt⟩ = res at *
  have B0 := Lib.hid ((Below.refl _ w).alloc (Nat.le_refl _) (.cells #[.int .i64 2, .int .u64 (t : Int), .int .i64 id, .int .i64 fl, .int .i64 nn, .int .i64 er, dv] 28))
  have s0 := new_block w (.cells #[.int .i64 2, .int .u64 (t : Int), .int .i64 id, .int .i64 fl, .int .i64 nn, .int .i64 er, dv] 28)
  clear hE
  go_enter Tryz.func30, Tryz.ntmps30
  go_upto_region 1 with (fail)
  generalize w.alloc (.cells #[.int .i64 2, .int .u64 (t : Int), .int .i64 id, .int .i64 fl, .int .i64 nn, .int .i64 er, dv] 28) = W1 at *
  have q0 := (cell_of s0 0).1; have q1 := (cell_of s0 1).1
  simp only [List.getElem?_toArray, List.getElem?_cons_succ, List.getElem?_cons_zero] at q0 q1
  have qw : W1.cell? ⟨0, 2, none⟩ = some (.string ⟨#[114, 117, 110]⟩) := HW.out W1 B0.out 2 (by omega)
  have HQ := Lib.hid (fun W (hW : Below W1.heap.size W1 W) => (⟨(cell_of ((hW.block _ (lt_of_block s0)).trans s0) 0).1, (cell_of ((hW.block _ (lt_of_block s0)).trans s0) 1).1, HW.out W (B0.out.trans (hW.mono B0.out.size)) 2 (by omega)⟩ : W.cell? ⟨w.heap.size, 0, none⟩ = some (.int .i64 2) ∧ W.cell? ⟨w.heap.size, 1, none⟩ = some (.int .u64 (t : Int)) ∧ W.cell? ⟨0, 2, none⟩ = some (.string ⟨#[114, 117, 110]⟩)))
  go_region_held3 (fun W => W.cell? ⟨w.heap.size, 0, none⟩ = some (.int .i64 2) ∧ W.cell? ⟨w.heap.size, 1, none⟩ = some (.int .u64 (t : Int)) ∧ W.cell? ⟨0, 2, none⟩ = some (.string ⟨#[114, 117, 110]⟩))
    (first | exact HQ.out _ (Below.refl _ _) | exact HQ.out _ (Below.refl _ _).drew | exact HQ.out _ C1.out | exact HQ.out _ C1.out.drew | exact HQ.out _ (C1.out.alloc C1.out.size _) | exact HQ.out _ (C1.out.alloc C1.out.size _).drew)
    (first | (go_at_call 42; refine (HT.out _ (by first | exact B0.out | exact B0.out.drew)).mono ?_; rintro e u1 ⟨rfl, b⟩; have C1 : Hid (Below W1.heap.size W1 u1) := Lib.hid (by first | exact b | exact (Below.refl _ _).drew.trans b); clear b))
  have R2 := row_made (base := w.heap.size) (new_block u1 (.cells #[.string ⟨#[114, 117, 110]⟩, .string ⟨(Lib.decDigits t).toArray⟩] 9)) (Nat.le_trans B0.out.size C1.out.size) (by unfold maxLen; simp)
  have B2 : Hid (Below w.heap.size w (u1.alloc (.cells #[.string ⟨#[114, 117, 110]⟩, .string ⟨(Lib.decDigits t).toArray⟩] 9))) := Lib.hid ((B0.out.trans (C1.out.mono B0.out.size)).alloc (Nat.le_trans B0.out.size C1.out.size) _)
  have s2 : (u1.alloc (.cells #[.string ⟨#[114, 117, 110]⟩, .string ⟨(Lib.decDigits t).toArray⟩] 9)).heap[w.heap.size]? = some (.cells #[.int .i64 2, .int .u64 (t : Int), .int .i64 id, .int .i64 fl, .int .i64 nn, .int .i64 er, dv] 28) := (((C1.out.alloc C1.out.size _).block _ (lt_of_block s0)).trans s0)
  generalize u1.alloc (.cells #[.string ⟨#[114, 117, 110]⟩, .string ⟨(Lib.decDigits t).toArray⟩] 9) = W2 at *
  generalize u1.heap.size = g at R2 ⊢
  simp only [List.size_toArray, List.length_cons, List.length_nil] at R2
  have R2' : Hid (W2.ownsRow w.heap.size 9 1 (.slice (some ⟨g, 0, none⟩) 2 2) 2 [.string ⟨#[114, 117, 110]⟩, .string ⟨(Lib.decDigits t).toArray⟩]) := Lib.hid R2
  clear R2 q0 q1 qw HQ s0 C1 B0
  have q0 := (cell_of s2 0).1; have q2 := (cell_of s2 2).1; have q3 := (cell_of s2 3).1; have q4 := (cell_of s2 4).1; have q5 := (cell_of s2 5).1; have q6 := (cell_of s2 6).1
  simp only [List.getElem?_toArray, List.getElem?_cons_succ, List.getElem?_cons_zero] at q0 q2 q3 q4 q5 q6
  go_wp2_with fail
  refine (HN.out _ B2.out).mono ?_
  rintro e W3 ⟨rfl, b⟩
  have s3 := (b.block _ (lt_of_block s2)).trans s2
  have R3 := Lib.hid (row_keep R2'.out b)
  have B3 := Lib.hid (B2.out.trans (b.mono B2.out.size))
  clear b s2 R2' B2 q0 q2 q3 q4 q5 q6
  have q0 := (cell_of s3 0).1; have q2 := (cell_of s3 2).1; have q3 := (cell_of s3 3).1; have q4 := (cell_of s3 4).1; have q5 := (cell_of s3 5).1; have q6 := (cell_of s3 6).1
  simp only [List.getElem?_toArray, List.getElem?_cons_succ, List.getElem?_cons_zero] at q0 q2 q3 q4 q5 q6
  go_wp2_with fail
  refine (HR.out _ B3.out).mono ?_
  rintro e W4 ⟨rfl, b⟩
  have s4 := (b.block _ (lt_of_block s3)).trans s3
  have R4 := Lib.hid (row_keep R3.out b)
  have B4 := Lib.hid (B3.out.trans (b.mono B3.out.size))
  clear b s3 R3 B3 q0 q2 q3 q4 q5 q6
  have q0 := (cell_of s4 0).1; have q2 := (cell_of s4 2).1; have q3 := (cell_of s4 3).1; have q4 := (cell_of s4 4).1; have q5 := (cell_of s4 5).1; have q6 := (cell_of s4 6).1
  simp only [List.getElem?_toArray, List.getElem?_cons_succ, List.getElem?_cons_zero] at q0 q2 q3 q4 q5 q6
  obtain ⟨i9, hi9, hz9, hs9, hy9⟩ := info_parts info9
  have I9 := Lib.hid hi9; have Z9 := Lib.hid hz9; have S9 := Lib.hid hs9; have Y9 := Lib.hid hy9
  clear hi9 hz9 hs9 hy9
  go_wp2_with fail
  refine (HF.out _ B4.out).mono ?_
  rintro e W5 ⟨rfl, b⟩
  have s5 := (b.block _ (lt_of_block s4)).trans s4
  have R5 := Lib.hid (row_keep R4.out b)
  have B5 := Lib.hid (B4.out.trans (b.mono B4.out.size))
  clear b s4 R4 B4 q0 q2 q3 q4 q5 q6
  have q0 := (cell_of s5 0).1; have q2 := (cell_of s5 2).1; have q3 := (cell_of s5 3).1; have q4 := (cell_of s5 4).1; have q5 := (cell_of s5 5).1; have q6 := (cell_of s5 6).1
  simp only [List.getElem?_toArray, List.getElem?_cons_succ, List.getElem?_cons_zero] at q0 q2 q3 q4 q5 q6
  go_wp2_with fail
  refine (HI.out _ B5.out).mono ?_
  rintro e W6 ⟨rfl, b⟩
  have s6 := (b.block _ (lt_of_block s5)).trans s5
  have R7 := Lib.hid (row_keep R5.out b)
  have B8 := Lib.hid (B5.out.trans (b.mono B5.out.size))
  clear b s5 R5 B5 q0 q2 q3 q4 q5 q6
  go_wp2_with (at_builtin; refine wpList_append_own _ rfl (.tmp 43) (.tmp 49) 75 rfl w.heap.size 9 i9 _ 1 16 Tryz.underlying75 I9.out Z9.out S9.out Y9.out rfl (by decide) _ _ _ rfl (R7.out.alloc _) ⟨W6.heap.size, 0, none⟩ 3 3 [.string ⟨(Lib.itoa id).toArray⟩, .string ⟨(Fl.txL 0 fl).toArray⟩, .string ⟨(Lib.itoa nn).toArray⟩] rfl rfl (World.news_of_block (cs := #[.string ⟨(Lib.itoa id).toArray⟩, .string ⟨(Fl.txL 0 fl).toArray⟩, .string ⟨(Lib.itoa nn).toArray⟩]) (t := 9) (fr := (0, 0)) (new_block _ _)) (by simp [Value.oneCell']) (by unfold maxLen; omega) (by omega) (by have := B8.out.size; simp; omega) ?_; intro v' w6 hown hgrow _; have R6 := Lib.hid hown; have G6 := Lib.hid hgrow; clear hown hgrow)
  have B6 : Hid (Below w.heap.size w w6) := Lib.hid (below_append B8.out R7.out G6.out (Nat.le_refl _) B8.out.size)
  go_wp2_with fail
  refine (join_rowL (l := [[114, 117, 110], Lib.decDigits t, Lib.itoa id, Fl.txL 0 fl, Lib.itoa nn]) (by exact R6.out) rfl (by simp) (by simp) HZ.out).mono ?_
  rintro e w7 ⟨rfl, b⟩
  have B7 := Lib.hid (B6.out.trans (b.mono B6.out.size))
  clear b
  go_wp2_with fail
  go_ret
  exact ⟨by rw [HL.out]; rfl, B7.out⟩
set_option maxHeartbeats 8000000 in
theorem line_3 (t : Nat) (id fl nn er : Int) (dt : List UInt8) (dv : Value) (w : World) (hE : Ev w) (t1 : t < 18446744073709551616) (n0 : i64ok nn) (e0 : i64ok er) (i0 : i64ok id) (hd : DataAt w dv dt) (hl : dt.length ≤ 65536) :
    Calls Tryz.prog 30 #[.agg #[.int .i64 3, .int .u64 (t : Int), .int .i64 id, .int .i64 fl, .int .i64 nn, .int .i64 er, dv]] w fun e w' => e = .returned (.string ⟨(lineL ⟨3, t, id, fl, nn, er, dt⟩).toArray⟩) ∧ Below w.heap.size w w' := by
  have HT := Lib.hid (fun W (hW : Below w.heap.size w W) => fmt_any t t1 W (hE.below hW).t)
  have HN := Lib.hid (fun W (hW : Below w.heap.size w W) => itoa_any nn n0.1 n0.2 W (hE.below hW).t)
  have HR := Lib.hid (fun W (hW : Below w.heap.size w W) => itoa_any er e0.1 e0.2 W (hE.below hW).t)
  have HW := Lib.hid (fun W (hW : Below w.heap.size w W) => (hE.below hW).tw)
  have zT := dec_len t t1
  have zN := Lib.itoa_length_le nn n0.1 n0.2
  have zR := Lib.itoa_length_le er e0.1 e0.2
  have HI := Lib.hid (fun W (hW : Below w.heap.size w W) => itoa_any id i0.1 i0.2 W (hE.below hW).t)
  have zI := Lib.itoa_length_le id i0.1 i0.2
  have HX := Lib.hid (fun W (hW : Below w.heap.size w W) => hex_any W dv dt (hd.below hW) hl)
  have zX := hexL_len dt
  have HL : Hid (lineL ⟨3, t, id, fl, nn, er, dt⟩ = Lib.join [[100, 105, 100], Lib.decDigits t, Lib.itoa id, Lib.itoa nn, Lib.itoa er, hexL dt] [32]) := Lib.hid (by simp [lineL, lineW, wordL])
  have HZ : Hid ((Lib.join [[100, 105, 100], Lib.decDigits t, Lib.itoa id, Lib.itoa nn, Lib.itoa er, hexL dt] [32]).length ≤ 140737488355328) := Lib.hid (by
    refine Nat.le_trans (Fl.join_len [32] _ 200000 (fun x hx => ?_)) (by simp)
    simp only [List.mem_cons, List.not_mem_nil, or_false] at hx
    rcases hx with rfl | rfl | rfl | rfl | rfl | rfl <;> first | (simp; done) | omega)
  generalize lineL ⟨3, t, id, fl, nn, er, dt⟩ = res at *
  have B0 := Lib.hid ((Below.refl _ w).alloc (Nat.le_refl _) (.cells #[.int .i64 3, .int .u64 (t : Int), .int .i64 id, .int .i64 fl, .int .i64 nn, .int .i64 er, dv] 28))
  have s0 := new_block w (.cells #[.int .i64 3, .int .u64 (t : Int), .int .i64 id, .int .i64 fl, .int .i64 nn, .int .i64 er, dv] 28)
  clear hE
  go_enter Tryz.func30, Tryz.ntmps30
  go_upto_region 1 with (fail)
  generalize w.alloc (.cells #[.int .i64 3, .int .u64 (t : Int), .int .i64 id, .int .i64 fl, .int .i64 nn, .int .i64 er, dv] 28) = W1 at *
  have q0 := (cell_of s0 0).1; have q1 := (cell_of s0 1).1
  simp only [List.getElem?_toArray, List.getElem?_cons_succ, List.getElem?_cons_zero] at q0 q1
  have qw : W1.cell? ⟨0, 3, none⟩ = some (.string ⟨#[100, 105, 100]⟩) := HW.out W1 B0.out 3 (by omega)
  have HQ := Lib.hid (fun W (hW : Below W1.heap.size W1 W) => (⟨(cell_of ((hW.block _ (lt_of_block s0)).trans s0) 0).1, (cell_of ((hW.block _ (lt_of_block s0)).trans s0) 1).1, HW.out W (B0.out.trans (hW.mono B0.out.size)) 3 (by omega)⟩ : W.cell? ⟨w.heap.size, 0, none⟩ = some (.int .i64 3) ∧ W.cell? ⟨w.heap.size, 1, none⟩ = some (.int .u64 (t : Int)) ∧ W.cell? ⟨0, 3, none⟩ = some (.string ⟨#[100, 105, 100]⟩)))
  go_region_held3 (fun W => W.cell? ⟨w.heap.size, 0, none⟩ = some (.int .i64 3) ∧ W.cell? ⟨w.heap.size, 1, none⟩ = some (.int .u64 (t : Int)) ∧ W.cell? ⟨0, 3, none⟩ = some (.string ⟨#[100, 105, 100]⟩))
    (first | exact HQ.out _ (Below.refl _ _) | exact HQ.out _ (Below.refl _ _).drew | exact HQ.out _ C1.out | exact HQ.out _ C1.out.drew | exact HQ.out _ (C1.out.alloc C1.out.size _) | exact HQ.out _ (C1.out.alloc C1.out.size _).drew)
    (first | (go_at_call 42; refine (HT.out _ (by first | exact B0.out | exact B0.out.drew)).mono ?_; rintro e u1 ⟨rfl, b⟩; have C1 : Hid (Below W1.heap.size W1 u1) := Lib.hid (by first | exact b | exact (Below.refl _ _).drew.trans b); clear b))
  have R2 := row_made (base := w.heap.size) (new_block u1 (.cells #[.string ⟨#[100, 105, 100]⟩, .string ⟨(Lib.decDigits t).toArray⟩] 9)) (Nat.le_trans B0.out.size C1.out.size) (by unfold maxLen; simp)
  have B2 : Hid (Below w.heap.size w (u1.alloc (.cells #[.string ⟨#[100, 105, 100]⟩, .string ⟨(Lib.decDigits t).toArray⟩] 9))) := Lib.hid ((B0.out.trans (C1.out.mono B0.out.size)).alloc (Nat.le_trans B0.out.size C1.out.size) _)
  have s2 : (u1.alloc (.cells #[.string ⟨#[100, 105, 100]⟩, .string ⟨(Lib.decDigits t).toArray⟩] 9)).heap[w.heap.size]? = some (.cells #[.int .i64 3, .int .u64 (t : Int), .int .i64 id, .int .i64 fl, .int .i64 nn, .int .i64 er, dv] 28) := (((C1.out.alloc C1.out.size _).block _ (lt_of_block s0)).trans s0)
  generalize u1.alloc (.cells #[.string ⟨#[100, 105, 100]⟩, .string ⟨(Lib.decDigits t).toArray⟩] 9) = W2 at *
  generalize u1.heap.size = g at R2 ⊢
  simp only [List.size_toArray, List.length_cons, List.length_nil] at R2
  have R2' : Hid (W2.ownsRow w.heap.size 9 1 (.slice (some ⟨g, 0, none⟩) 2 2) 2 [.string ⟨#[100, 105, 100]⟩, .string ⟨(Lib.decDigits t).toArray⟩]) := Lib.hid R2
  clear R2 q0 q1 qw HQ s0 C1 B0
  have q0 := (cell_of s2 0).1; have q2 := (cell_of s2 2).1; have q3 := (cell_of s2 3).1; have q4 := (cell_of s2 4).1; have q5 := (cell_of s2 5).1; have q6 := (cell_of s2 6).1
  simp only [List.getElem?_toArray, List.getElem?_cons_succ, List.getElem?_cons_zero] at q0 q2 q3 q4 q5 q6
  go_wp2_with fail
  refine (HN.out _ B2.out).mono ?_
  rintro e W3 ⟨rfl, b⟩
  have s3 := (b.block _ (lt_of_block s2)).trans s2
  have R3 := Lib.hid (row_keep R2'.out b)
  have B3 := Lib.hid (B2.out.trans (b.mono B2.out.size))
  clear b s2 R2' B2 q0 q2 q3 q4 q5 q6
  have q0 := (cell_of s3 0).1; have q2 := (cell_of s3 2).1; have q3 := (cell_of s3 3).1; have q4 := (cell_of s3 4).1; have q5 := (cell_of s3 5).1; have q6 := (cell_of s3 6).1
  simp only [List.getElem?_toArray, List.getElem?_cons_succ, List.getElem?_cons_zero] at q0 q2 q3 q4 q5 q6
  go_wp2_with fail
  refine (HR.out _ B3.out).mono ?_
  rintro e W4 ⟨rfl, b⟩
  have s4 := (b.block _ (lt_of_block s3)).trans s3
  have R4 := Lib.hid (row_keep R3.out b)
  have B4 := Lib.hid (B3.out.trans (b.mono B3.out.size))
  clear b s3 R3 B3 q0 q2 q3 q4 q5 q6
  have q0 := (cell_of s4 0).1; have q2 := (cell_of s4 2).1; have q3 := (cell_of s4 3).1; have q4 := (cell_of s4 4).1; have q5 := (cell_of s4 5).1; have q6 := (cell_of s4 6).1
  simp only [List.getElem?_toArray, List.getElem?_cons_succ, List.getElem?_cons_zero] at q0 q2 q3 q4 q5 q6
  obtain ⟨i9, hi9, hz9, hs9, hy9⟩ := info_parts info9
  have I9 := Lib.hid hi9; have Z9 := Lib.hid hz9; have S9 := Lib.hid hs9; have Y9 := Lib.hid hy9
  clear hi9 hz9 hs9 hy9
  have HQ4 := Lib.hid (fun W (hW : Below W4.heap.size W4 W) => (⟨(cell_of ((hW.block _ (lt_of_block s4)).trans s4) 2).1, (cell_of ((hW.block _ (lt_of_block s4)).trans s4) 6).1⟩ : W.cell? ⟨w.heap.size, 2, none⟩ = some (.int .i64 id) ∧ W.cell? ⟨w.heap.size, 6, none⟩ = some dv))
  have HI4 := Lib.hid (fun W (hW : Below W4.heap.size W4 W) => HI.out W (B4.out.trans (hW.mono B4.out.size)))
  have HX4 := Lib.hid (fun W (hW : Below W4.heap.size W4 W) => HX.out W (B4.out.trans (hW.mono B4.out.size)))
  have SZ4 := Lib.hid B4.out.size
  have HNG := Lib.hid (row_not R4.out s4 (by decide))
  go_upto_region 12 with (fail)
  go_region_held3 (fun W => W.cell? ⟨w.heap.size, 2, none⟩ = some (.int .i64 id) ∧ W.cell? ⟨w.heap.size, 6, none⟩ = some dv)
    (first | exact HQ4.out _ (Below.refl _ _) | exact HQ4.out _ (Below.refl _ _).drew | exact HQ4.out _ C1.out | exact HQ4.out _ C1.out.drew | exact HQ4.out _ C2.out | exact HQ4.out _ C2.out.drew | exact HQ4.out _ (C2.out.alloc C2.out.size _) | exact HQ4.out _ (C2.out.alloc C2.out.size _).drew | exact Y3.out)
    (first
      | (go_at_call 43; refine (HI4.out _ (by first | exact Below.refl _ _ | exact (Below.refl _ _).drew)).mono ?_; rintro e u1 ⟨rfl, b⟩; have C1 : Hid (Below W4.heap.size W4 u1) := Lib.hid (by first | exact b | exact (Below.refl _ _).drew.trans b); clear b)
      | (go_at_call 44; refine (HX4.out _ (by first | exact C1.out | exact C1.out.drew)).mono ?_; rintro e u2 ⟨rfl, b⟩; have C2 : Hid (Below W4.heap.size W4 u2) := Lib.hid (by first | exact C1.out.trans (b.mono C1.out.size) | exact C1.out.drew.trans (b.mono C1.out.size)); have R5 := Lib.hid (row_keep R4.out C2.out); have SZ5 : Hid (w.heap.size ≤ u2.heap.size) := Lib.hid (Nat.le_trans SZ4.out C2.out.size); clear b)
      | (refine step_append_lies _ rfl (.tmp 53) (.tmp 62) 75 rfl w.heap.size 9 i9 _ 1 16 Tryz.underlying75 I9.out Z9.out S9.out Y9.out ?a1 ?a2 (.slice (some ⟨g, 0, none⟩) 2 2) 2 [.string ⟨#[100, 105, 100]⟩, .string ⟨(Lib.decDigits t).toArray⟩] ?a3 ?a4 ⟨u2.heap.size, 0, none⟩ 4 4 [.string ⟨(Lib.itoa id).toArray⟩, .string ⟨(Lib.itoa nn).toArray⟩, .string ⟨(Lib.itoa er).toArray⟩, .string ⟨(hexL dt).toArray⟩] ?b1 ?b2 ?b3 ?b4 ?b5 ?b6 ?b7 ?b8 (u2.heap.size + 1) ?b9 ?_; (case a1 => rfl); (case a2 => omega); (case a3 => simp [Act.eval, Act.put]); (case a4 => exact R5.out.alloc _); (case b1 => simp [Act.eval, Act.put]); (case b2 => rfl); (case b3 => exact (World.news_of_block (cs := #[.string ⟨(Lib.itoa id).toArray⟩, .string ⟨(Lib.itoa nn).toArray⟩, .string ⟨(Lib.itoa er).toArray⟩, .string ⟨(hexL dt).toArray⟩]) (t := 9) (fr := (0, 0)) (by exact new_block _ _))); (case b4 => simp [Value.oneCell']); (case b5 => omega); (case b6 => unfold maxLen; omega); (case b7 => omega); (case b8 => (have := SZ5.out; simp; omega)); (case b9 => simp); intro gg cap w6 own2 gr2 at2 lt2; have G6 : Hid (World.grownBy (u2.alloc (.cells #[.string ⟨(Lib.itoa id).toArray⟩, .string ⟨(Lib.itoa nn).toArray⟩, .string ⟨(Lib.itoa er).toArray⟩, .string ⟨(hexL dt).toArray⟩] 9)) w6 _) := Lib.hid gr2; have R6 := Lib.hid own2; clear own2 gr2 at2; have Y3 := Lib.hid (And.intro (far_row G6.out (HQ4.out _ C2.out).1 (by exact HNG.out)).1 (far_row G6.out (HQ4.out _ C2.out).2 (by exact HNG.out)).1)))
  have B5 : Hid (Below w.heap.size w u2) := Lib.hid (B4.out.trans (C2.out.mono B4.out.size))
  clear HQ4 HI4 HX4 Y3
  have B6 : Hid (Below w.heap.size w w6) := Lib.hid (below_append B5.out R5.out G6.out (Nat.le_refl _) B5.out.size)
  go_wp2_with fail
  refine (join_rowL (l := [[100, 105, 100], Lib.decDigits t, Lib.itoa id, Lib.itoa nn, Lib.itoa er, hexL dt]) (by exact R6.out) rfl (by simp) (by simp) HZ.out).mono ?_
  rintro e w7 ⟨rfl, b⟩
  have B7 := Lib.hid (B6.out.trans (b.mono B6.out.size))
  clear b
  go_wp2_with fail
  go_ret
  exact ⟨by rw [HL.out]; rfl, B7.out⟩
set_option maxHeartbeats 8000000 in
theorem line_4 (t : Nat) (id fl nn er : Int) (dt : List UInt8) (dv : Value) (w : World) (hE : Ev w) (t1 : t < 18446744073709551616) (n0 : i64ok nn) (e0 : i64ok er) :
    Calls Tryz.prog 30 #[.agg #[.int .i64 4, .int .u64 (t : Int), .int .i64 id, .int .i64 fl, .int .i64 nn, .int .i64 er, dv]] w fun e w' => e = .returned (.string ⟨(lineL ⟨4, t, id, fl, nn, er, dt⟩).toArray⟩) ∧ Below w.heap.size w w' := by
  have HT := Lib.hid (fun W (hW : Below w.heap.size w W) => fmt_any t t1 W (hE.below hW).t)
  have HN := Lib.hid (fun W (hW : Below w.heap.size w W) => itoa_any nn n0.1 n0.2 W (hE.below hW).t)
  have HR := Lib.hid (fun W (hW : Below w.heap.size w W) => itoa_any er e0.1 e0.2 W (hE.below hW).t)
  have HW := Lib.hid (fun W (hW : Below w.heap.size w W) => (hE.below hW).tw)
  have zT := dec_len t t1
  have zN := Lib.itoa_length_le nn n0.1 n0.2
  have zR := Lib.itoa_length_le er e0.1 e0.2
  have HL : Hid (lineL ⟨4, t, id, fl, nn, er, dt⟩ = Lib.join [[101, 110, 100], Lib.decDigits t, Lib.itoa nn, Lib.itoa er] [32]) := Lib.hid (by simp [lineL, lineW, wordL])
  have HZ : Hid ((Lib.join [[101, 110, 100], Lib.decDigits t, Lib.itoa nn, Lib.itoa er] [32]).length ≤ 140737488355328) := Lib.hid (by
    refine Nat.le_trans (Fl.join_len [32] _ 200000 (fun x hx => ?_)) (by simp)
    simp only [List.mem_cons, List.not_mem_nil, or_false] at hx
    rcases hx with rfl | rfl | rfl | rfl <;> first | (simp; done) | omega)
  generalize lineL ⟨4, t, id, fl, nn, er, dt⟩ = res at *
  have B0 := Lib.hid ((Below.refl _ w).alloc (Nat.le_refl _) (.cells #[.int .i64 4, .int .u64 (t : Int), .int .i64 id, .int .i64 fl, .int .i64 nn, .int .i64 er, dv] 28))
  have s0 := new_block w (.cells #[.int .i64 4, .int .u64 (t : Int), .int .i64 id, .int .i64 fl, .int .i64 nn, .int .i64 er, dv] 28)
  clear hE
  go_enter Tryz.func30, Tryz.ntmps30
  go_upto_region 1 with (fail)
  generalize w.alloc (.cells #[.int .i64 4, .int .u64 (t : Int), .int .i64 id, .int .i64 fl, .int .i64 nn, .int .i64 er, dv] 28) = W1 at *
  have q0 := (cell_of s0 0).1; have q1 := (cell_of s0 1).1
  simp only [List.getElem?_toArray, List.getElem?_cons_succ, List.getElem?_cons_zero] at q0 q1
  have qw : W1.cell? ⟨0, 4, none⟩ = some (.string ⟨#[101, 110, 100]⟩) := HW.out W1 B0.out 4 (by omega)
  have HQ := Lib.hid (fun W (hW : Below W1.heap.size W1 W) => (⟨(cell_of ((hW.block _ (lt_of_block s0)).trans s0) 0).1, (cell_of ((hW.block _ (lt_of_block s0)).trans s0) 1).1, HW.out W (B0.out.trans (hW.mono B0.out.size)) 4 (by omega)⟩ : W.cell? ⟨w.heap.size, 0, none⟩ = some (.int .i64 4) ∧ W.cell? ⟨w.heap.size, 1, none⟩ = some (.int .u64 (t : Int)) ∧ W.cell? ⟨0, 4, none⟩ = some (.string ⟨#[101, 110, 100]⟩)))
  go_region_held3 (fun W => W.cell? ⟨w.heap.size, 0, none⟩ = some (.int .i64 4) ∧ W.cell? ⟨w.heap.size, 1, none⟩ = some (.int .u64 (t : Int)) ∧ W.cell? ⟨0, 4, none⟩ = some (.string ⟨#[101, 110, 100]⟩))
    (first | exact HQ.out _ (Below.refl _ _) | exact HQ.out _ (Below.refl _ _).drew | exact HQ.out _ C1.out | exact HQ.out _ C1.out.drew | exact HQ.out _ (C1.out.alloc C1.out.size _) | exact HQ.out _ (C1.out.alloc C1.out.size _).drew)
    (first | (go_at_call 42; refine (HT.out _ (by first | exact B0.out | exact B0.out.drew)).mono ?_; rintro e u1 ⟨rfl, b⟩; have C1 : Hid (Below W1.heap.size W1 u1) := Lib.hid (by first | exact b | exact (Below.refl _ _).drew.trans b); clear b))
  have R2 := row_made (base := w.heap.size) (new_block u1 (.cells #[.string ⟨#[101, 110, 100]⟩, .string ⟨(Lib.decDigits t).toArray⟩] 9)) (Nat.le_trans B0.out.size C1.out.size) (by unfold maxLen; simp)
  have B2 : Hid (Below w.heap.size w (u1.alloc (.cells #[.string ⟨#[101, 110, 100]⟩, .string ⟨(Lib.decDigits t).toArray⟩] 9))) := Lib.hid ((B0.out.trans (C1.out.mono B0.out.size)).alloc (Nat.le_trans B0.out.size C1.out.size) _)
  have s2 : (u1.alloc (.cells #[.string ⟨#[101, 110, 100]⟩, .string ⟨(Lib.decDigits t).toArray⟩] 9)).heap[w.heap.size]? = some (.cells #[.int .i64 4, .int .u64 (t : Int), .int .i64 id, .int .i64 fl, .int .i64 nn, .int .i64 er, dv] 28) := (((C1.out.alloc C1.out.size _).block _ (lt_of_block s0)).trans s0)
  generalize u1.alloc (.cells #[.string ⟨#[101, 110, 100]⟩, .string ⟨(Lib.decDigits t).toArray⟩] 9) = W2 at *
  generalize u1.heap.size = g at R2 ⊢
  simp only [List.size_toArray, List.length_cons, List.length_nil] at R2
  have R2' : Hid (W2.ownsRow w.heap.size 9 1 (.slice (some ⟨g, 0, none⟩) 2 2) 2 [.string ⟨#[101, 110, 100]⟩, .string ⟨(Lib.decDigits t).toArray⟩]) := Lib.hid R2
  clear R2 q0 q1 qw HQ s0 C1 B0
  have q0 := (cell_of s2 0).1; have q2 := (cell_of s2 2).1; have q3 := (cell_of s2 3).1; have q4 := (cell_of s2 4).1; have q5 := (cell_of s2 5).1; have q6 := (cell_of s2 6).1
  simp only [List.getElem?_toArray, List.getElem?_cons_succ, List.getElem?_cons_zero] at q0 q2 q3 q4 q5 q6
  go_wp2_with fail
  refine (HN.out _ B2.out).mono ?_
  rintro e W3 ⟨rfl, b⟩
  have s3 := (b.block _ (lt_of_block s2)).trans s2
  have R3 := Lib.hid (row_keep R2'.out b)
  have B3 := Lib.hid (B2.out.trans (b.mono B2.out.size))
  clear b s2 R2' B2 q0 q2 q3 q4 q5 q6
  have q0 := (cell_of s3 0).1; have q2 := (cell_of s3 2).1; have q3 := (cell_of s3 3).1; have q4 := (cell_of s3 4).1; have q5 := (cell_of s3 5).1; have q6 := (cell_of s3 6).1
  simp only [List.getElem?_toArray, List.getElem?_cons_succ, List.getElem?_cons_zero] at q0 q2 q3 q4 q5 q6
  go_wp2_with fail
  refine (HR.out _ B3.out).mono ?_
  rintro e W4 ⟨rfl, b⟩
  have s4 := (b.block _ (lt_of_block s3)).trans s3
  have R4 := Lib.hid (row_keep R3.out b)
  have B4 := Lib.hid (B3.out.trans (b.mono B3.out.size))
  clear b s3 R3 B3 q0 q2 q3 q4 q5 q6
  have q0 := (cell_of s4 0).1; have q2 := (cell_of s4 2).1; have q3 := (cell_of s4 3).1; have q4 := (cell_of s4 4).1; have q5 := (cell_of s4 5).1; have q6 := (cell_of s4 6).1
  simp only [List.getElem?_toArray, List.getElem?_cons_succ, List.getElem?_cons_zero] at q0 q2 q3 q4 q5 q6
  obtain ⟨i9, hi9, hz9, hs9, hy9⟩ := info_parts info9
  have I9 := Lib.hid hi9; have Z9 := Lib.hid hz9; have S9 := Lib.hid hs9; have Y9 := Lib.hid hy9
  clear hi9 hz9 hs9 hy9
  go_wp2_with (at_builtin; refine wpList_append_own _ rfl (.tmp 24) (.tmp 27) 75 rfl w.heap.size 9 i9 _ 1 16 Tryz.underlying75 I9.out Z9.out S9.out Y9.out rfl (by decide) _ _ _ rfl (R4.out.alloc _) ⟨W4.heap.size, 0, none⟩ 2 2 [.string ⟨(Lib.itoa nn).toArray⟩, .string ⟨(Lib.itoa er).toArray⟩] rfl rfl (World.news_of_block (cs := #[.string ⟨(Lib.itoa nn).toArray⟩, .string ⟨(Lib.itoa er).toArray⟩]) (t := 9) (fr := (0, 0)) (new_block _ _)) (by simp [Value.oneCell']) (by unfold maxLen; omega) (by omega) (by have := B4.out.size; simp; omega) ?_; intro v' w6 hown hgrow _; have R6 := Lib.hid hown; have G6 := Lib.hid hgrow; clear hown hgrow)
  have B6 : Hid (Below w.heap.size w w6) := Lib.hid (below_append B4.out R4.out G6.out (Nat.le_refl _) B4.out.size)
  go_wp2_with fail
  refine (join_rowL (l := [[101, 110, 100], Lib.decDigits t, Lib.itoa nn, Lib.itoa er]) (by exact R6.out) rfl (by simp) (by simp) HZ.out).mono ?_
  rintro e w7 ⟨rfl, b⟩
  have B7 := Lib.hid (B6.out.trans (b.mono B6.out.size))
  clear b
  go_wp2_with fail
  go_ret
  exact ⟨by rw [HL.out]; rfl, B7.out⟩
end Go.Proofs.YtbanfkpfijcmcaaGreatDoor
