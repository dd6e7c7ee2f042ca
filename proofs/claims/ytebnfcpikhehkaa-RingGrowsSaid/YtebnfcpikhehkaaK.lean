/- The law RingGrows. -/
import Derived.Test.YtebnfcpikhehkaaJ
namespace Go.Proofs.Ytebnfcpikhehkaa
open Go.RowKit Go.Shelf
set_option linter.unusedSimpArgs false
set_option linter.unusedVariables false
set_option maxRecDepth 100000

/-- All that is there, looked at. -/
theorem Look_all (g gb C : Nat) (L : List Int) (ip op : Nat) (m : Nat) (w : World) (h : Rg w g gb C L ip op) (hm : L.length = m) :
    Calls Try.prog 15 #[.pointer (some ⟨g, 0, none⟩), .int .i64 (m : Int)] w fun e w' => (∃ v, e = .returned v ∧ Got w' w.heap.size v L) ∧ Below w.heap.size w w' := by
  have := Look_any g gb C L ip op (m : Int) w h
  rw [Int.toNat_natCast, List.take_of_length_le (by omega)] at this
  exact this

set_option maxHeartbeats 4000000 in
theorem grows_in (C : Nat) (A : Option Addr) (cap : Nat) (zs : List Int) (n other : Int) (w : World) (hC : C ≤ 1000) (hi : Ints .u8 w A zs) (hl : zs.length ≤ 2000) (hc : zs.length ≤ cap) (hcap : cap ≤ maxLen) (hby : ∀ x ∈ zs, 0 ≤ x ∧ x < 256) (wn : (Lit.int .i64 n).wf = true) (wo : (Lit.int .i64 other).wf = true) :
    Calls Try.prog 6 #[.int .i64 C, .slice A zs.length cap, .int .i64 n, .int .i64 other] w fun e w' => e = .returned (.bool true) ∧ Below w.heap.size w w' := by
  obtain ⟨n0, n1⟩ := bd_i64 wn
  obtain ⟨o0, o1⟩ := bd_i64 wo
  clear wn wo
  have HA := Lib.hid (alive_any w)
  have HI := Lib.hid hi
  have Hm := Lib.hid (ints_lt hi)
  have HB := Lib.hid hby
  clear hi hby
  generalize hlen : zs.length = len at *
  have HLEN := Lib.hid hlen; clear hlen
  go_enter Try.func6, Try.ntmps6
  go_wp2_with fail
  refine HA.out.mono ?_
  rintro e W1 ⟨rfl, b1⟩
  have B1 := Lib.hid b1; have z1 := b1.size; clear b1
  go_wp2_with fail
  refine (New_ok C W1 (by omega)).mono ?_
  rintro e w2 ⟨rfl, r2, b2⟩
  have R2 := Lib.hid r2; have l2 := r2.lt; have B2 := Lib.hid (B1.out.trans (b2.mono (by omega))); have z2 := b2.size; clear r2 b2
  have I2 := Lib.hid (HI.out.below B2.out)
  go_wp2_with fail
  refine (Put_any _ _ C [] 0 0 A len cap zs w2 R2.out I2.out HLEN.out hc hcap HB.out (fun x o s h0 e => by have := Hm.out x o s (by omega) e; omega) (by omega)).mono ?_
  rintro e w3 ⟨rfl, r3, f3⟩
  have B3 := Lib.hid (f3.below B2.out (by omega) (by omega) (by omega)); have z3 := f3.2.2.2.1
  have hX : (([] : List Int) ++ zs.take (C - ([] : List Int).length)).length ≤ 1000 := by simp; omega
  have hip : 0 + min len (C - ([] : List Int).length) ≤ 1000 := by simp; omega
  generalize ([] : List Int) ++ zs.take (C - ([] : List Int).length) = X at *
  generalize 0 + min len (C - ([] : List Int).length) = ip at *
  have R3 := Lib.hid r3
  clear r3 f3 I2 R2
  go_wp2_with fail
  refine (Take_any _ _ C X ip 0 _ w3 R3.out (by omega)).mono ?_
  rintro e w4 ⟨⟨v, rfl, v4⟩, r4, g4⟩
  have B4 := Lib.hid ((Fr2.of_grown (gb := W1.heap.size) g4).below B3.out (by omega) (by omega) (by omega)); have z4 := g4.size
  have hY : ∀ k : Nat, (X.drop k).length ≤ 1000 ∧ 0 + (X.take k).length ≤ 1000 := fun k => by rw [List.length_drop, List.length_take]; omega
  generalize hD : X.drop (n.tdiv 2).toNat = Y at *
  have hY1 : Y.length ≤ 1000 := by rw [← hD]; exact (hY _).1
  have hop := (hY (n.tdiv 2).toNat).2
  generalize 0 + (X.take (n.tdiv 2).toNat).length = op at *
  have R4 := Lib.hid r4
  clear r4 g4 v4 hY hD R3
  have e1 : strOfNums Y = strOfNums (Y.take n.toNat) ++ strOfNums (Y.drop n.toNat) := by rw [str_append, List.take_append_drop]
  have e2 : (strOfNums (Y.take n.toNat)).size = (Y.take n.toNat).length ∧ (Y.take n.toNat).length + (Y.drop n.toNat).length = Y.length := ⟨str_size _, by rw [List.length_take, List.length_drop]; omega⟩
  have e3 : (strOfNums (Y.drop n.toNat)).size = (Y.drop n.toNat).length := str_size _
  have HLk := Lib.hid (fun g gb C op w h => Look_any g gb C Y ip op n w h)
  have HTk := Lib.hid (fun g gb C w h => Take_any g gb C Y ip op n w h (by omega))
  have HSY := Lib.hid e1
  generalize hT : Y.take n.toNat = T at *
  generalize hD : Y.drop n.toNat = D at *
  have HDl := Lib.hid (show D.length ≤ 1000 by omega)
  generalize hyn : Y.length = yn at *
  have HYN := Lib.hid hyn
  have hST : (strOfNums T).size ≤ 1000 := by omega
  have hSD : (strOfNums D).size ≤ 1000 := by omega
  have HST : Hid (strOfNums T = strOfNums T) := Lib.hid rfl
  have HTD := Lib.hid (show (strOfNums T).size + D.length = yn by omega)
  clear hyn e1 e2 e3 hT hD
  go_wp2_with fail
  refine (Len_any _ _ C Y ip op w4 R4.out).mono ?_
  rintro e w' ⟨rfl, rfl⟩
  rw [HYN.out]
  go_wp2_with fail
  refine (Look_all _ _ C Y ip op yn w4 R4.out HYN.out).mono ?_
  rintro e w5 ⟨⟨v, rfl, v5⟩, b5⟩
  have R5 := Lib.hid (R4.out.below b5 R4.out.lt.1 R4.out.lt.2); have B5 := Lib.hid (B4.out.trans (b5.mono (by omega))); have z5 := b5.size; clear b5
  obtain ⟨A5, c5, rfl, -⟩ := v5.form
  have s5 := v5.str
  rw [HSY.out, HYN.out] at s5
  rw [HYN.out]
  clear v5
  go_wp2_with fail
  clear s5
  refine (Counts_any _ _ C Y ip op w5 R5.out).mono ?_
  rintro e w6 ⟨rfl, b6⟩
  have R6 := Lib.hid (R5.out.below b6 R5.out.lt.1 R5.out.lt.2); have B6 := Lib.hid (B5.out.trans (b6.mono (by omega))); have z6 := b6.size; clear b6
  go_wp2_with fail
  by_cases hok : (yn : Int) ≤ other ∧ other ≤ 65536
  · obtain ⟨c, rfl⟩ := Int.eq_ofNat_of_zero_le (show 0 ≤ other by omega)
    refine (Grow_ok _ _ C Y ip op c w6 R6.out (by have := HYN.out; omega) (by omega)).mono ?_
    rintro e w7 ⟨rfl, r7, g7⟩
    have hgb : w.heap.size ≤ w6.heap.size := by omega
    generalize hgbe : w6.heap.size = gb7 at r7 hgb
    have hgbl : gb7 < w7.heap.size := r7.lt.2
    have R7 := Lib.hid r7; have B7 := Lib.hid ((Fr2.of_grown (gb := W1.heap.size) g7).below B6.out (by omega) (by omega) (by omega)); have z7 := g7.size; clear r7 g7
    have f0 : ((c - yn : Nat) : Int) = (c : Int) - (yn : Int) := by omega
    have f1 : (((c - yn : Nat) : Int) != (c : Int) - (yn : Int)) = false := by rw [f0]; simp
    have f2 : ((c - yn : Nat) : Int) ≤ 65536 := by omega
    have F0 := Lib.hid f0; clear f0 hgbe
    generalize hK : c = K7 at R7
    have HK := Lib.hid hK; clear hK
    have hr7 := R7.out.lt
    go_wp2_with fail
    refine (Counts_any _ _ _ Y ip op w7 R7.out).mono ?_
    rintro e w8 ⟨rfl, b8⟩
    have R8 := Lib.hid (R7.out.below b8 hr7.1 hr7.2); have B8 := Lib.hid (B7.out.trans (b8.mono (by omega))); have z8 := b8.size; clear b8
    go_wp2_with fail
    refine (Room_any _ _ _ Y ip op w8 R8.out).mono ?_
    rintro e w9 ⟨rfl, b9⟩
    have R9 := Lib.hid (R8.out.below b9 (by omega) (by omega)); have B9 := Lib.hid (B8.out.trans (b9.mono (by omega))); have z9 := b9.size; clear b9
    rw [HYN.out, ← HK.out]
    go_wp2_with fail
    refine (Len_any _ _ _ Y ip op w9 R9.out).mono ?_
    rintro e w' ⟨rfl, rfl⟩
    rw [HYN.out]
    generalize c - yn = rm at *
    go_wp2_with fail
    clear f1
    refine (Len_any _ _ _ Y ip op w9 R9.out).mono ?_
    rintro e w' ⟨rfl, rfl⟩
    rw [HYN.out]
    go_wp2_with fail
    refine (Look_all _ _ _ Y ip op yn w9 R9.out HYN.out).mono ?_
    rintro e w10 ⟨⟨v, rfl, v10⟩, b10⟩
    have R10 := Lib.hid (R9.out.below b10 (by omega) (by omega)); have B10 := Lib.hid (B9.out.trans (b10.mono (by omega))); have z10 := b10.size; clear b10
    obtain ⟨A10, c10, rfl, -⟩ := v10.form
    have s10 := v10.str
    rw [HSY.out, HYN.out] at s10
    rw [HYN.out]
    clear v10
    go_wp2_with fail
    clear s10
    refine (HLk.out _ _ _ op w10 R10.out).mono ?_
    rintro e w11 ⟨⟨v, rfl, v11⟩, b11⟩
    have R11 := Lib.hid (R10.out.below b11 (by omega) (by omega)); have B11 := Lib.hid (B10.out.trans (b11.mono (by omega))); have z11 := b11.size; clear b11
    obtain ⟨A11, c11, rfl, -⟩ := v11.form
    have s11 := v11.str
    clear v11
    go_wp2_with fail
    clear s11
    refine (Len_any _ _ _ Y ip op w11 R11.out).mono ?_
    rintro e w' ⟨rfl, rfl⟩
    rw [HYN.out]
    go_wp2_with fail
    refine (HTk.out _ _ _ w11 R11.out).mono ?_
    rintro e w12 ⟨⟨v, rfl, v12⟩, r12, g12⟩
    have B12 := Lib.hid ((Fr2.of_grown (gb := W1.heap.size) g12).below B11.out (by omega) (by omega) (by omega)); have z12 := g12.size
    obtain ⟨A12, c12, rfl, -⟩ := v12.form
    have s12 := v12.str
    have R12 := Lib.hid r12
    clear v12 r12 g12
    go_wp2_with fail
    clear s12
    refine (Len_any _ _ _ D ip _ w12 R12.out).mono ?_
    rintro e w' ⟨rfl, rfl⟩
    have h5 : ((D.length : Int) == (yn : Int) - ((strOfNums T).size : Int)) = true := by have := HTD.out; simp only [beq_iff_eq]; omega
    have h6 := HDl.out
    generalize hdn : D.length = dn at *
    have HDN := Lib.hid hdn; clear hdn
    generalize strOfNums T = ST at *
    go_wp2_with fail
    clear h5
    refine (Len_any _ _ _ D ip _ w12 R12.out).mono ?_
    rintro e w' ⟨rfl, rfl⟩
    rw [HDN.out]
    go_wp2_with fail
    refine (Look_all _ _ _ D ip _ dn w12 R12.out HDN.out).mono ?_
    rintro e w13 ⟨⟨v, rfl, v13⟩, b13⟩
    have B13 := Lib.hid (B12.out.trans (b13.mono (by omega))); clear b13
    obtain ⟨A13, c13, rfl, -⟩ := v13.form
    have s13 := v13.str
    rw [HDN.out] at s13 ⊢
    clear v13
    generalize strOfNums D = SD at *
    go_wp2_with fail
    go_ret
    exact ⟨rfl, B13.out⟩
  · refine (Grow_bad _ _ C Y ip op other w6 R6.out (by have := HYN.out; omega)).mono ?_
    rintro e w7 ⟨rfl, rfl⟩
    have hgb : w.heap.size ≤ W1.heap.size := by omega
    obtain ⟨gb7, hgbe⟩ : ∃ gb7, gb7 = W1.heap.size := ⟨_, rfl⟩
    have R7 : Hid (Rg w6 (W1.heap.size + 1) gb7 C Y ip op) := by rw [hgbe]; exact R6
    rw [← hgbe] at hgb
    have B7 := B6
    have z7 : w6.heap.size ≤ w6.heap.size := Nat.le_refl _
    have hYC : yn ≤ C := by have := R6.out.len.1; have := HYN.out; omega
    have f0 : ((C - yn : Nat) : Int) = (C : Int) - (yn : Int) := by omega
    have f1 : (((C - yn : Nat) : Int) != (C : Int) - (yn : Int)) = false := by rw [f0]; simp
    have f2 : ((C - yn : Nat) : Int) ≤ 65536 := by omega
    have F0 := Lib.hid f0; clear f0
    clear hgbe
    have hK : C = C := rfl
    have HK := Lib.hid hK; clear hK
    have hr7 := R7.out.lt
    go_wp2_with fail
    refine (Counts_any _ _ _ Y ip op w6 R7.out).mono ?_
    rintro e w8 ⟨rfl, b8⟩
    have R8 := Lib.hid (R7.out.below b8 hr7.1 hr7.2); have B8 := Lib.hid (B7.out.trans (b8.mono (by omega))); have z8 := b8.size; clear b8
    go_wp2_with fail
    refine (Room_any _ _ _ Y ip op w8 R8.out).mono ?_
    rintro e w9 ⟨rfl, b9⟩
    have R9 := Lib.hid (R8.out.below b9 (by omega) (by omega)); have B9 := Lib.hid (B8.out.trans (b9.mono (by omega))); have z9 := b9.size; clear b9
    rw [HYN.out]
    go_wp2_with fail
    refine (Len_any _ _ _ Y ip op w9 R9.out).mono ?_
    rintro e w' ⟨rfl, rfl⟩
    rw [HYN.out]
    generalize C - yn = rm at *
    go_wp2_with fail
    clear f1
    refine (Len_any _ _ _ Y ip op w9 R9.out).mono ?_
    rintro e w' ⟨rfl, rfl⟩
    rw [HYN.out]
    go_wp2_with fail
    refine (Look_all _ _ _ Y ip op yn w9 R9.out HYN.out).mono ?_
    rintro e w10 ⟨⟨v, rfl, v10⟩, b10⟩
    have R10 := Lib.hid (R9.out.below b10 (by omega) (by omega)); have B10 := Lib.hid (B9.out.trans (b10.mono (by omega))); have z10 := b10.size; clear b10
    obtain ⟨A10, c10, rfl, -⟩ := v10.form
    have s10 := v10.str
    rw [HSY.out, HYN.out] at s10
    rw [HYN.out]
    clear v10
    go_wp2_with fail
    clear s10
    refine (HLk.out _ _ _ op w10 R10.out).mono ?_
    rintro e w11 ⟨⟨v, rfl, v11⟩, b11⟩
    have R11 := Lib.hid (R10.out.below b11 (by omega) (by omega)); have B11 := Lib.hid (B10.out.trans (b11.mono (by omega))); have z11 := b11.size; clear b11
    obtain ⟨A11, c11, rfl, -⟩ := v11.form
    have s11 := v11.str
    clear v11
    go_wp2_with fail
    clear s11
    refine (Len_any _ _ _ Y ip op w11 R11.out).mono ?_
    rintro e w' ⟨rfl, rfl⟩
    rw [HYN.out]
    go_wp2_with fail
    refine (HTk.out _ _ _ w11 R11.out).mono ?_
    rintro e w12 ⟨⟨v, rfl, v12⟩, r12, g12⟩
    have B12 := Lib.hid ((Fr2.of_grown (gb := W1.heap.size) g12).below B11.out (by omega) (by omega) (by omega)); have z12 := g12.size
    obtain ⟨A12, c12, rfl, -⟩ := v12.form
    have s12 := v12.str
    have R12 := Lib.hid r12
    clear v12 r12 g12
    go_wp2_with fail
    clear s12
    refine (Len_any _ _ _ D ip _ w12 R12.out).mono ?_
    rintro e w' ⟨rfl, rfl⟩
    have h5 : ((D.length : Int) == (yn : Int) - ((strOfNums T).size : Int)) = true := by have := HTD.out; simp only [beq_iff_eq]; omega
    have h6 := HDl.out
    generalize hdn : D.length = dn at *
    have HDN := Lib.hid hdn; clear hdn
    generalize strOfNums T = ST at *
    go_wp2_with fail
    clear h5
    refine (Len_any _ _ _ D ip _ w12 R12.out).mono ?_
    rintro e w' ⟨rfl, rfl⟩
    rw [HDN.out]
    go_wp2_with fail
    refine (Look_all _ _ _ D ip _ dn w12 R12.out HDN.out).mono ?_
    rintro e w13 ⟨⟨v, rfl, v13⟩, b13⟩
    have B13 := Lib.hid (B12.out.trans (b13.mono (by omega))); clear b13
    obtain ⟨A13, c13, rfl, -⟩ := v13.form
    have s13 := v13.str
    rw [HDN.out] at s13 ⊢
    clear v13
    generalize strOfNums D = SD at *
    go_wp2_with fail
    go_ret
    exact ⟨rfl, B13.out⟩

set_option maxHeartbeats 1000000 in
theorem grows_out (c : Int) (A : Option Addr) (len cap : Nat) (cut tk : Int) (w : World) (hm : len ≤ maxLen) (h : (c < 0 ∨ 1000 < c) ∨ 2000 < len) :
    Calls Try.prog 6 #[.int .i64 c, .slice A len cap, .int .i64 cut, .int .i64 tk] w fun e w' => e = .returned (.bool true) ∧ Below w.heap.size w w' := by
  unfold maxLen at hm
  have HA := Lib.hid (alive_any w)
  by_cases h1 : c < 0
  case' neg =>
    have h1 : 0 ≤ c := by omega
    by_cases h2 : 1000 < c
    case' neg =>
      have h2 : c ≤ 1000 := by omega
      have h3 : 2000 < (len : Int) := by omega
  all_goals
    clear h
    go_enter Try.func6, Try.ntmps6
    go_wp2_with fail
    refine HA.out.mono ?_
    rintro e w1 ⟨rfl, b1⟩
    go_wp2_with fail
    go_ret
    exact ⟨rfl, b1⟩
theorem grows_top (c : Int) (A : Option Addr) (len cap : Nat) (z : List Int) (n other : Int) (w : World) (w0 : (Lit.int .i64 c).wf = true) (hr : IsRow .u8 w A len cap z) (w1 : (Lit.int .i64 n).wf = true) (w2 : (Lit.int .i64 other).wf = true) :
    Calls Try.prog 6 #[.int .i64 c, .slice A len cap, .int .i64 n, .int .i64 other] w fun e w' => e = .returned (.bool true) ∧ Below w.heap.size w w' := by
  obtain ⟨l, rfl, h2, h3, h4, h5⟩ := row_bytes hr
  by_cases hin : (0 ≤ c ∧ c ≤ 1000) ∧ l.length ≤ 2000
  · obtain ⟨C, rfl⟩ := Int.eq_ofNat_of_zero_le hin.1.1
    exact grows_in C A cap l n other w (by omega) h4 hin.2 h2 h3 h5 w1 w2
  · exact grows_out c A l.length cap n other w (by omega) (by omega)
end Go.Proofs.Ytebnfcpikhehkaa
