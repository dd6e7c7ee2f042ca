/- The document's line of an entry. -/
import Derived.Test.YtbanfkpfijcmcaaGreatDoorGi
import Derived.Test.YtbanfkpfijcmcaaGreatDoorFV
import Derived.Test.YtbanfkpfijcmcaaGreatDoorRx
namespace Go.Proofs.YtbanfkpfijcmcaaGreatDoor
open Go.RowKit
set_option linter.unusedSimpArgs false
set_option linter.unusedVariables false
set_option maxRecDepth 100000

def dgS (u : Nat) : ByteArray := ⟨(Lib.decDigits u).toArray⟩
theorem dgS_size (u : Nat) (h : u < 18446744073709551616) : (dgS u).size ≤ 20 := by unfold dgS; rw [mk_size]; exact dec_len u h
theorem dg_any (u : Nat) (W : World) (h : u < 18446744073709551616) : Calls Tryz.prog 46 #[.int .u64 (u : Int)] W fun e w' => e = .returned (.string (dgS u)) ∧ Below W.heap.size W w' := digits_any u W h
theorem rl_1 (t n : Nat) (id fl er : Int) : (⟨#[116, 117, 114, 110]⟩ : ByteArray) ++ (⟨#[32]⟩ ++ dgS t) ++ (⟨#[32]⟩ ++ dgS n) = ⟨(lineL ⟨1, (t : Int), id, fl, (n : Int), er, []⟩).toArray⟩ := by
  unfold dgS lineL lineW wordL
  apply ByteArray.ext
  simp [Lib.join, Lib.joinTail, itoa_nat]
theorem rl_2 (t n i : Nat) (fl er : Int) : (⟨#[114, 117, 110]⟩ : ByteArray) ++ (⟨#[32]⟩ ++ dgS t) ++ (⟨#[32]⟩ ++ dgS i) ++ ⟨#[32]⟩ ++ ⟨(Fl.txL 0 fl).toArray⟩ ++ (⟨#[32]⟩ ++ dgS n) = ⟨(lineL ⟨2, (t : Int), (i : Int), fl, (n : Int), er, []⟩).toArray⟩ := by
  unfold dgS lineL lineW wordL
  apply ByteArray.ext
  simp [Lib.join, Lib.joinTail, itoa_nat]
theorem rl_3 (t n i e : Nat) (fl : Int) (d : List UInt8) : (⟨#[100, 105, 100]⟩ : ByteArray) ++ (⟨#[32]⟩ ++ dgS t) ++ (⟨#[32]⟩ ++ dgS i) ++ (⟨#[32]⟩ ++ dgS n) ++ (⟨#[32]⟩ ++ dgS e) ++ ⟨#[32]⟩ ++ ⟨(hexL d).toArray⟩ = ⟨(lineL ⟨3, (t : Int), (i : Int), fl, (n : Int), (e : Int), d⟩).toArray⟩ := by
  unfold dgS lineL lineW wordL
  apply ByteArray.ext
  simp [Lib.join, Lib.joinTail, itoa_nat]
theorem rl_4 (t n e : Nat) (id fl : Int) : (⟨#[101, 110, 100]⟩ : ByteArray) ++ (⟨#[32]⟩ ++ dgS t) ++ (⟨#[32]⟩ ++ dgS n) ++ (⟨#[32]⟩ ++ dgS e) = ⟨(lineL ⟨4, (t : Int), id, fl, (n : Int), (e : Int), []⟩).toArray⟩ := by
  unfold dgS lineL lineW wordL
  apply ByteArray.ext
  simp [Lib.join, Lib.joinTail, itoa_nat]
set_option maxHeartbeats 4000000 in
theorem rline_1 (t n i e : Nat) (fl : Int) (dv : Value) (w : World) (ht : t < 18446744073709551616) (hn : n < 9223372036854775808) (hi : i < 9223372036854775808) (he : e < 9223372036854775808) :
    Calls Tryz.prog 32 #[.agg #[.int .i64 1, .int .u64 (t : Int), .int .i64 (i : Int), .int .i64 fl, .int .i64 (n : Int), .int .i64 (e : Int), dv]] w fun r w' => r = .returned (.string ⟨(lineL ⟨1, (t : Int), (i : Int), fl, (n : Int), (e : Int), []⟩).toArray⟩) ∧ Below w.heap.size w w' := by
  have HT := Lib.hid (fun W => dg_any t W ht)
  have HN := Lib.hid (fun W => dg_any n W (by omega))
  have HI := Lib.hid (fun W => dg_any i W (by omega))
  have HE := Lib.hid (fun W => dg_any e W (by omega))
  have z1 := dgS_size t ht
  have z2 := dgS_size n (by omega)
  have z3 := dgS_size i (by omega)
  have z4 := dgS_size e (by omega)
  have hw1 : IntKind.u64.wrap (n : Int) = (n : Int) := by rw [wrap_u64]; omega
  have hw2 : IntKind.u64.wrap (i : Int) = (i : Int) := by rw [wrap_u64]; omega
  have hw3 : IntKind.u64.wrap (e : Int) = (e : Int) := by rw [wrap_u64]; omega
  have HL := Lib.hid (rl_1 t n i fl e)
  have sx := new_block w (.cells #[.int .i64 1, .int .u64 (t : Int), .int .i64 (i : Int), .int .i64 fl, .int .i64 (n : Int), .int .i64 (e : Int), dv] 28)
  have B0 := Lib.hid ((Below.refl _ w).alloc (Nat.le_refl _) (.cells #[.int .i64 1, .int .u64 (t : Int), .int .i64 (i : Int), .int .i64 fl, .int .i64 (n : Int), .int .i64 (e : Int), dv] 28))
  have HB := Lib.hid (fun (W : World) (hW : Below (w.alloc (.cells #[.int .i64 1, .int .u64 (t : Int), .int .i64 (i : Int), .int .i64 fl, .int .i64 (n : Int), .int .i64 (e : Int), dv] 28)).heap.size (w.alloc (.cells #[.int .i64 1, .int .u64 (t : Int), .int .i64 (i : Int), .int .i64 fl, .int .i64 (n : Int), .int .i64 (e : Int), dv] 28)) W) => (hW.block _ (lt_of_block sx)).trans sx)
  generalize dgS t = St at *
  generalize dgS n = Sn at *
  generalize dgS i = Si at *
  generalize dgS e = Se at *
  clear sx ht hn hi he
  go_enter Tryz.func32, Tryz.ntmps32
  go_wp2_with fail
  refine (HT.out _).mono ?_
  rintro r w1 ⟨rfl, b1⟩
  have C1 := Lib.hid b1
  obtain ⟨c0, g0, c1, g1, c2, g2, c3, g3, c4, g4, c5, g5, c6, g6⟩ := cells7 (HB.out _ C1.out)
  clear b1 g0 g1 g2 g3 g4 g5 g6
  go_wp2_with fail
  refine (HN.out _).mono ?_
  rintro r w2 ⟨rfl, b2⟩
  have C2 := Lib.hid (C1.out.trans (b2.mono C1.out.size))
  clear c0 c1 c2 c3 c4 c5 c6 b2
  obtain ⟨c0, g0, c1, g1, c2, g2, c3, g3, c4, g4, c5, g5, c6, g6⟩ := cells7 (HB.out _ C2.out)
  clear g0 g1 g2 g3 g4 g5 g6
  go_wp2_with fail
  refine (HE.out _).mono ?_
  rintro r w3 ⟨rfl, b3⟩
  have C3 := Lib.hid (C2.out.trans (b3.mono C2.out.size))
  clear c0 c1 c2 c3 c4 c5 c6 b3
  obtain ⟨c0, g0, c1, g1, c2, g2, c3, g3, c4, g4, c5, g5, c6, g6⟩ := cells7 (HB.out _ C3.out)
  clear g0 g1 g2 g3 g4 g5 g6
  go_wp2_with fail
  refine (HI.out _).mono ?_
  rintro r w4 ⟨rfl, b4⟩
  have C4 := Lib.hid (C3.out.trans (b4.mono C3.out.size))
  have B4 := Lib.hid (B0.out.trans (C4.out.mono B0.out.size))
  clear c0 c1 c2 c3 c4 c5 c6 b4
  obtain ⟨c0, g0, c1, g1, c2, g2, c3, g3, c4, g4, c5, g5, c6, g6⟩ := cells7 (HB.out _ C4.out)
  clear g0 g1 g2 g3 g4 g5 g6
  go_wp2_with fail
  go_ret
  exact ⟨by rw [← HL.out]; rfl, B4.out⟩
set_option maxHeartbeats 4000000 in
theorem rline_2 (t n i e : Nat) (fl : Int) (dv : Value) (w : World) (ht : t < 18446744073709551616) (hn : n < 9223372036854775808) (hi : i < 9223372036854775808) (he : e < 9223372036854775808) :
    Calls Tryz.prog 32 #[.agg #[.int .i64 2, .int .u64 (t : Int), .int .i64 (i : Int), .int .i64 fl, .int .i64 (n : Int), .int .i64 (e : Int), dv]] w fun r w' => r = .returned (.string ⟨(lineL ⟨2, (t : Int), (i : Int), fl, (n : Int), (e : Int), []⟩).toArray⟩) ∧ Below w.heap.size w w' := by
  have HT := Lib.hid (fun W => dg_any t W ht)
  have HN := Lib.hid (fun W => dg_any n W (by omega))
  have HI := Lib.hid (fun W => dg_any i W (by omega))
  have HE := Lib.hid (fun W => dg_any e W (by omega))
  have z1 := dgS_size t ht
  have z2 := dgS_size n (by omega)
  have z3 := dgS_size i (by omega)
  have z4 := dgS_size e (by omega)
  have hw1 : IntKind.u64.wrap (n : Int) = (n : Int) := by rw [wrap_u64]; omega
  have hw2 : IntKind.u64.wrap (i : Int) = (i : Int) := by rw [wrap_u64]; omega
  have hw3 : IntKind.u64.wrap (e : Int) = (e : Int) := by rw [wrap_u64]; omega
  have HL := Lib.hid (rl_2 t n i fl e)
  have sx := new_block w (.cells #[.int .i64 2, .int .u64 (t : Int), .int .i64 (i : Int), .int .i64 fl, .int .i64 (n : Int), .int .i64 (e : Int), dv] 28)
  have B0 := Lib.hid ((Below.refl _ w).alloc (Nat.le_refl _) (.cells #[.int .i64 2, .int .u64 (t : Int), .int .i64 (i : Int), .int .i64 fl, .int .i64 (n : Int), .int .i64 (e : Int), dv] 28))
  have HB := Lib.hid (fun (W : World) (hW : Below (w.alloc (.cells #[.int .i64 2, .int .u64 (t : Int), .int .i64 (i : Int), .int .i64 fl, .int .i64 (n : Int), .int .i64 (e : Int), dv] 28)).heap.size (w.alloc (.cells #[.int .i64 2, .int .u64 (t : Int), .int .i64 (i : Int), .int .i64 fl, .int .i64 (n : Int), .int .i64 (e : Int), dv] 28)) W) => (hW.block _ (lt_of_block sx)).trans sx)
  have HF := Lib.hid (fun W => Fl.rallTop0 fl W)
  unfold Fl.RA at HF
  have z5 : (⟨(Fl.txL 0 fl).toArray⟩ : ByteArray).size ≤ 54 := by rw [mk_size]; exact tx_len fl
  generalize (⟨(Fl.txL 0 fl).toArray⟩ : ByteArray) = Sf at *
  generalize Fl.txE 0 fl = fe at *
  generalize dgS t = St at *
  generalize dgS n = Sn at *
  generalize dgS i = Si at *
  generalize dgS e = Se at *
  clear sx ht hn hi he
  go_enter Tryz.func32, Tryz.ntmps32
  go_wp2_with fail
  refine (HT.out _).mono ?_
  rintro r w1 ⟨rfl, b1⟩
  have C1 := Lib.hid b1
  obtain ⟨c0, g0, c1, g1, c2, g2, c3, g3, c4, g4, c5, g5, c6, g6⟩ := cells7 (HB.out _ C1.out)
  clear b1 g0 g1 g2 g3 g4 g5 g6
  go_wp2_with fail
  refine (HN.out _).mono ?_
  rintro r w2 ⟨rfl, b2⟩
  have C2 := Lib.hid (C1.out.trans (b2.mono C1.out.size))
  clear c0 c1 c2 c3 c4 c5 c6 b2
  obtain ⟨c0, g0, c1, g1, c2, g2, c3, g3, c4, g4, c5, g5, c6, g6⟩ := cells7 (HB.out _ C2.out)
  clear g0 g1 g2 g3 g4 g5 g6
  go_wp2_with fail
  refine (HE.out _).mono ?_
  rintro r w3 ⟨rfl, b3⟩
  have C3 := Lib.hid (C2.out.trans (b3.mono C2.out.size))
  clear c0 c1 c2 c3 c4 c5 c6 b3
  obtain ⟨c0, g0, c1, g1, c2, g2, c3, g3, c4, g4, c5, g5, c6, g6⟩ := cells7 (HB.out _ C3.out)
  clear g0 g1 g2 g3 g4 g5 g6
  go_wp2_with fail
  refine (HI.out _).mono ?_
  rintro r w4 ⟨rfl, b4⟩
  have C4 := Lib.hid (C3.out.trans (b4.mono C3.out.size))
  have B4 := Lib.hid (B0.out.trans (C4.out.mono B0.out.size))
  clear c0 c1 c2 c3 c4 c5 c6 b4
  obtain ⟨c0, g0, c1, g1, c2, g2, c3, g3, c4, g4, c5, g5, c6, g6⟩ := cells7 (HB.out _ C4.out)
  clear g0 g1 g2 g3 g4 g5 g6
  go_wp2_with fail
  refine (HF.out _).mono ?_
  rintro r w5 ⟨rfl, rfl⟩
  go_wp2_with fail
  go_ret
  exact ⟨by rw [← HL.out]; rfl, B4.out⟩
set_option maxHeartbeats 4000000 in
theorem rline_3 (t n i e : Nat) (fl : Int) (d : List UInt8) (A : Option Addr) (cd : Nat) (w : World) (hd : DataAt w (.slice A d.length cd) d) (hdl : d.length ≤ 65536) (ht : t < 18446744073709551616) (hn : n < 9223372036854775808) (hi : i < 9223372036854775808) (he : e < 9223372036854775808) :
    Calls Tryz.prog 32 #[.agg #[.int .i64 3, .int .u64 (t : Int), .int .i64 (i : Int), .int .i64 fl, .int .i64 (n : Int), .int .i64 (e : Int), .slice A d.length cd]] w fun r w' => r = .returned (.string ⟨(lineL ⟨3, (t : Int), (i : Int), fl, (n : Int), (e : Int), d⟩).toArray⟩) ∧ Below w.heap.size w w' := by
  have HT := Lib.hid (fun W => dg_any t W ht)
  have HN := Lib.hid (fun W => dg_any n W (by omega))
  have HI := Lib.hid (fun W => dg_any i W (by omega))
  have HE := Lib.hid (fun W => dg_any e W (by omega))
  have z1 := dgS_size t ht
  have z2 := dgS_size n (by omega)
  have z3 := dgS_size i (by omega)
  have z4 := dgS_size e (by omega)
  have hw1 : IntKind.u64.wrap (n : Int) = (n : Int) := by rw [wrap_u64]; omega
  have hw2 : IntKind.u64.wrap (i : Int) = (i : Int) := by rw [wrap_u64]; omega
  have hw3 : IntKind.u64.wrap (e : Int) = (e : Int) := by rw [wrap_u64]; omega
  have HL := Lib.hid (rl_3 t n i e fl d)
  have sx := new_block w (.cells #[.int .i64 3, .int .u64 (t : Int), .int .i64 (i : Int), .int .i64 fl, .int .i64 (n : Int), .int .i64 (e : Int), .slice A d.length cd] 28)
  have B0 := Lib.hid ((Below.refl _ w).alloc (Nat.le_refl _) (.cells #[.int .i64 3, .int .u64 (t : Int), .int .i64 (i : Int), .int .i64 fl, .int .i64 (n : Int), .int .i64 (e : Int), .slice A d.length cd] 28))
  have HB := Lib.hid (fun (W : World) (hW : Below (w.alloc (.cells #[.int .i64 3, .int .u64 (t : Int), .int .i64 (i : Int), .int .i64 fl, .int .i64 (n : Int), .int .i64 (e : Int), .slice A d.length cd] 28)).heap.size (w.alloc (.cells #[.int .i64 3, .int .u64 (t : Int), .int .i64 (i : Int), .int .i64 fl, .int .i64 (n : Int), .int .i64 (e : Int), .slice A d.length cd] 28)) W) => (hW.block _ (lt_of_block sx)).trans sx)
  have HX := Lib.hid (fun W (hW : Below w.heap.size w W) => rhex_any W A cd d (hd.below hW) hdl)
  have z5 : (⟨(hexL d).toArray⟩ : ByteArray).size ≤ 131073 := by rw [mk_size]; have := hexL_len d; omega
  clear hd hdl
  generalize (⟨(hexL d).toArray⟩ : ByteArray) = Sx at *
  generalize d.length = dl at *
  generalize dgS t = St at *
  generalize dgS n = Sn at *
  generalize dgS i = Si at *
  generalize dgS e = Se at *
  clear sx ht hn hi he
  go_enter Tryz.func32, Tryz.ntmps32
  go_wp2_with fail
  refine (HT.out _).mono ?_
  rintro r w1 ⟨rfl, b1⟩
  have C1 := Lib.hid b1
  obtain ⟨c0, g0, c1, g1, c2, g2, c3, g3, c4, g4, c5, g5, c6, g6⟩ := cells7 (HB.out _ C1.out)
  clear b1 g0 g1 g2 g3 g4 g5 g6
  go_wp2_with fail
  refine (HN.out _).mono ?_
  rintro r w2 ⟨rfl, b2⟩
  have C2 := Lib.hid (C1.out.trans (b2.mono C1.out.size))
  clear c0 c1 c2 c3 c4 c5 c6 b2
  obtain ⟨c0, g0, c1, g1, c2, g2, c3, g3, c4, g4, c5, g5, c6, g6⟩ := cells7 (HB.out _ C2.out)
  clear g0 g1 g2 g3 g4 g5 g6
  go_wp2_with fail
  refine (HE.out _).mono ?_
  rintro r w3 ⟨rfl, b3⟩
  have C3 := Lib.hid (C2.out.trans (b3.mono C2.out.size))
  clear c0 c1 c2 c3 c4 c5 c6 b3
  obtain ⟨c0, g0, c1, g1, c2, g2, c3, g3, c4, g4, c5, g5, c6, g6⟩ := cells7 (HB.out _ C3.out)
  clear g0 g1 g2 g3 g4 g5 g6
  go_wp2_with fail
  refine (HI.out _).mono ?_
  rintro r w4 ⟨rfl, b4⟩
  have C4 := Lib.hid (C3.out.trans (b4.mono C3.out.size))
  have B4 := Lib.hid (B0.out.trans (C4.out.mono B0.out.size))
  clear c0 c1 c2 c3 c4 c5 c6 b4
  obtain ⟨c0, g0, c1, g1, c2, g2, c3, g3, c4, g4, c5, g5, c6, g6⟩ := cells7 (HB.out _ C4.out)
  clear g0 g1 g2 g3 g4 g5 g6
  go_wp2_with fail
  refine (HX.out _ B4.out).mono ?_
  rintro r w5 ⟨rfl, b5⟩
  have B5 := Lib.hid (B4.out.trans (b5.mono B4.out.size))
  clear b5
  go_wp2_with fail
  go_ret
  exact ⟨by rw [← HL.out]; rfl, B5.out⟩
set_option maxHeartbeats 4000000 in
theorem rline_4 (t n i e : Nat) (fl : Int) (dv : Value) (w : World) (ht : t < 18446744073709551616) (hn : n < 9223372036854775808) (hi : i < 9223372036854775808) (he : e < 9223372036854775808) :
    Calls Tryz.prog 32 #[.agg #[.int .i64 4, .int .u64 (t : Int), .int .i64 (i : Int), .int .i64 fl, .int .i64 (n : Int), .int .i64 (e : Int), dv]] w fun r w' => r = .returned (.string ⟨(lineL ⟨4, (t : Int), (i : Int), fl, (n : Int), (e : Int), []⟩).toArray⟩) ∧ Below w.heap.size w w' := by
  have HT := Lib.hid (fun W => dg_any t W ht)
  have HN := Lib.hid (fun W => dg_any n W (by omega))
  have HI := Lib.hid (fun W => dg_any i W (by omega))
  have HE := Lib.hid (fun W => dg_any e W (by omega))
  have z1 := dgS_size t ht
  have z2 := dgS_size n (by omega)
  have z3 := dgS_size i (by omega)
  have z4 := dgS_size e (by omega)
  have hw1 : IntKind.u64.wrap (n : Int) = (n : Int) := by rw [wrap_u64]; omega
  have hw2 : IntKind.u64.wrap (i : Int) = (i : Int) := by rw [wrap_u64]; omega
  have hw3 : IntKind.u64.wrap (e : Int) = (e : Int) := by rw [wrap_u64]; omega
  have HL := Lib.hid (rl_4 t n e i fl)
  have sx := new_block w (.cells #[.int .i64 4, .int .u64 (t : Int), .int .i64 (i : Int), .int .i64 fl, .int .i64 (n : Int), .int .i64 (e : Int), dv] 28)
  have B0 := Lib.hid ((Below.refl _ w).alloc (Nat.le_refl _) (.cells #[.int .i64 4, .int .u64 (t : Int), .int .i64 (i : Int), .int .i64 fl, .int .i64 (n : Int), .int .i64 (e : Int), dv] 28))
  have HB := Lib.hid (fun (W : World) (hW : Below (w.alloc (.cells #[.int .i64 4, .int .u64 (t : Int), .int .i64 (i : Int), .int .i64 fl, .int .i64 (n : Int), .int .i64 (e : Int), dv] 28)).heap.size (w.alloc (.cells #[.int .i64 4, .int .u64 (t : Int), .int .i64 (i : Int), .int .i64 fl, .int .i64 (n : Int), .int .i64 (e : Int), dv] 28)) W) => (hW.block _ (lt_of_block sx)).trans sx)
  generalize dgS t = St at *
  generalize dgS n = Sn at *
  generalize dgS i = Si at *
  generalize dgS e = Se at *
  clear sx ht hn hi he
  go_enter Tryz.func32, Tryz.ntmps32
  go_wp2_with fail
  refine (HT.out _).mono ?_
  rintro r w1 ⟨rfl, b1⟩
  have C1 := Lib.hid b1
  obtain ⟨c0, g0, c1, g1, c2, g2, c3, g3, c4, g4, c5, g5, c6, g6⟩ := cells7 (HB.out _ C1.out)
  clear b1 g0 g1 g2 g3 g4 g5 g6
  go_wp2_with fail
  refine (HN.out _).mono ?_
  rintro r w2 ⟨rfl, b2⟩
  have C2 := Lib.hid (C1.out.trans (b2.mono C1.out.size))
  clear c0 c1 c2 c3 c4 c5 c6 b2
  obtain ⟨c0, g0, c1, g1, c2, g2, c3, g3, c4, g4, c5, g5, c6, g6⟩ := cells7 (HB.out _ C2.out)
  clear g0 g1 g2 g3 g4 g5 g6
  go_wp2_with fail
  refine (HE.out _).mono ?_
  rintro r w3 ⟨rfl, b3⟩
  have C3 := Lib.hid (C2.out.trans (b3.mono C2.out.size))
  clear c0 c1 c2 c3 c4 c5 c6 b3
  obtain ⟨c0, g0, c1, g1, c2, g2, c3, g3, c4, g4, c5, g5, c6, g6⟩ := cells7 (HB.out _ C3.out)
  clear g0 g1 g2 g3 g4 g5 g6
  go_wp2_with fail
  refine (HI.out _).mono ?_
  rintro r w4 ⟨rfl, b4⟩
  have C4 := Lib.hid (C3.out.trans (b4.mono C3.out.size))
  have B4 := Lib.hid (B0.out.trans (C4.out.mono B0.out.size))
  clear c0 c1 c2 c3 c4 c5 c6 b4
  obtain ⟨c0, g0, c1, g1, c2, g2, c3, g3, c4, g4, c5, g5, c6, g6⟩ := cells7 (HB.out _ C4.out)
  clear g0 g1 g2 g3 g4 g5 g6
  go_wp2_with fail
  go_ret
  exact ⟨by rw [← HL.out]; rfl, B4.out⟩
theorem rline_any (x : En) (A : Option Addr) (c : Nat) (w : World) (hd : DataAt w (.slice A x.dt.length c) x.dt) (ok : EnOk x) (hm : mayF x = true) :
    Calls Tryz.prog 32 #[.agg #[.int .i64 x.kd, .int .u64 x.tk, .int .i64 x.id, .int .i64 x.fl, .int .i64 x.nn, .int .i64 x.er, .slice A x.dt.length c]] w fun e w' => e = .returned (.string ⟨(lineL x).toArray⟩) ∧ Below w.heap.size w w' := by
  have hk := may_kd hm
  have hl := may_dt hm
  have hm0 := hm
  unfold mayF at hm
  simp only [Bool.and_eq_true] at hm
  obtain ⟨hm1, hm2⟩ := hm
  obtain ⟨kd, tk, id, fl, nn, er, dt⟩ := x
  obtain ⟨_, ⟨t0, t1⟩, i0, _, n0, e0⟩ := ok
  unfold i64ok at i0 n0 e0
  simp only at hk hl hd t0 t1 i0 n0 e0 hm1 hm2 ⊢
  obtain ⟨p1, p2, p3⟩ := of_decide_eq_true hm1
  obtain ⟨t, rfl⟩ : ∃ t : Nat, tk = t := ⟨tk.toNat, by omega⟩
  obtain ⟨n, rfl⟩ : ∃ n : Nat, nn = n := ⟨nn.toNat, by omega⟩
  obtain ⟨i, rfl⟩ : ∃ i : Nat, id = i := ⟨id.toNat, by omega⟩
  obtain ⟨e, rfl⟩ : ∃ e : Nat, er = e := ⟨er.toNat, by omega⟩
  rcases hk with rfl | rfl | rfl | rfl
  · rw [if_pos rfl] at hm2
    obtain ⟨_, _, _, rfl⟩ := of_decide_eq_true hm2
    exact rline_1 t n i e fl _ w (by omega) (by omega) (by omega) (by omega)
  · rw [if_neg (by decide), if_pos rfl] at hm2
    obtain ⟨_, _, _, rfl⟩ := of_decide_eq_true hm2
    exact rline_2 t n i e fl _ w (by omega) (by omega) (by omega) (by omega)
  · exact rline_3 t n i e fl dt A c w hd hl (by omega) (by omega) (by omega) (by omega)
  · rw [if_neg (by decide), if_neg (by decide), if_neg (by decide), if_pos rfl] at hm2
    obtain ⟨_, _, rfl⟩ := of_decide_eq_true hm2
    exact rline_4 t n i e fl _ w (by omega) (by omega) (by omega) (by omega)
end Go.Proofs.YtbanfkpfijcmcaaGreatDoor
