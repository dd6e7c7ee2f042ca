/- The law RingLooks. -/
import Derived.Test.YtebnfcpikhehkaaI
namespace Go.Proofs.Ytebnfcpikhehkaa
open Go.RowKit Go.Shelf
set_option linter.unusedSimpArgs false
set_option linter.unusedVariables false
set_option maxRecDepth 100000

theorem ints_lt {w : World} {A : Option Addr} {zs : List Int} (h : Ints .u8 w A zs) : ∀ b o s, 0 < zs.length → A = some ⟨b, o, s⟩ → b < w.heap.size := fun b o s h0 e => by
  obtain ⟨b', o', e', hb, _⟩ := h h0
  rw [e] at e'; injection e' with e'; injection e' with e1; omega

set_option maxHeartbeats 4000000 in
theorem looks_in (C : Nat) (A A' : Option Addr) (cap cap' : Nat) (zs zs' : List Int) (n : Int) (w : World) (hC : C ≤ 65536) (iA : Ints .u8 w A zs) (iB : Ints .u8 w A' zs') (hlA : zs.length ≤ 200) (hlB : zs'.length ≤ 200) (hcA : zs.length ≤ cap) (hcB : zs'.length ≤ cap') (hmA : cap ≤ maxLen) (hmB : cap' ≤ maxLen)
    (hbA : ∀ x ∈ zs, 0 ≤ x ∧ x < 256) (hbB : ∀ x ∈ zs', 0 ≤ x ∧ x < 256) (wn : (Lit.int .i64 n).wf = true) :
    Calls Try.prog 4 #[.int .i64 C, .slice A zs.length cap, .slice A' zs'.length cap', .int .i64 n] w fun e w' => e = .returned (.bool true) ∧ Below w.heap.size w w' := by
  obtain ⟨n0, n1⟩ := bd_i64 wn
  have HA := Lib.hid (alive_any w)
  have IA := Lib.hid iA; have IB := Lib.hid iB
  have HNA := Lib.hid (ints_lt iA); have HNB := Lib.hid (ints_lt iB)
  have HBA := Lib.hid hbA; have HBB := Lib.hid hbB
  clear iA iB hbA hbB wn
  generalize hlen : zs.length = len at *
  generalize hlen' : zs'.length = len' at *
  have HLA := Lib.hid hlen; have HLB := Lib.hid hlen'; clear hlen hlen'
  go_enter Try.func4, Try.ntmps4
  go_wp2_with fail
  refine HA.out.mono ?_
  rintro e W1 ⟨rfl, b1⟩
  have B1 := Lib.hid b1; have z1 := b1.size; clear b1
  go_wp2_with fail
  refine (New_ok C W1 (by omega)).mono ?_
  rintro e w2 ⟨rfl, r2, b2⟩
  have R2 := Lib.hid r2; have l2 := r2.lt; have B2 := Lib.hid (B1.out.trans (b2.mono (by omega))); have z2 := b2.size; clear r2 b2
  go_wp2_with fail
  go_loopw [12] (fun i wr => ∃ (k : Nat) (L : List Int) (ip op : Nat), k ≤ 4 ∧ i = .int .i64 k ∧ ip ≤ 65536 * k ∧ Hid (Rg wr (W1.heap.size + 1) W1.heap.size C L ip op) ∧ Hid (ip = op + L.length) ∧ Hid (Below w.heap.size w wr)) (fun i _ => 4 - (intOf i).toNat)
  case atStart => exact ⟨0, [], 0, 0, by omega, rfl, by omega, R2, Lib.hid rfl, B2⟩
  case round =>
    obtain ⟨k, L, ip, op, hk, rfl, hip, R, HIP, B⟩ := hrel
    have lr := R.out.lt
    by_cases hlt : k < 4
    · have hop : op ≤ ip := by have := HIP.out; omega
      by_cases hpar : k % 2 = 0
      · have i2 : ((k : Int) % 2 == 1) = false := by simp; omega
        go_wp2_with fail
        refine (Room_any _ _ C L ip op wr R.out).mono ?_
        rintro e w1 ⟨rfl, b1⟩
        have R1 := Lib.hid (R.out.below b1 (by omega) (by omega)); have B1 := Lib.hid (B.out.trans (b1.mono (by omega))); have z1 := b1.size; clear b1
        have I1 := Lib.hid (IA.out.below B1.out)
        go_wp2_with fail
        refine (Put_any _ _ C L ip op A len cap zs w1 R1.out I1.out HLA.out hcA hmA HBA.out (fun x o s h0 e => by have := HNA.out x o s (by omega) e; omega) (by omega)).mono ?_
        rintro e w2 ⟨rfl, r2, f2⟩
        have B2 := Lib.hid (f2.below B1.out (by omega) (by omega) (by omega)); have z2 := f2.2.2.2.1
        obtain ⟨hL2, -, -⟩ := r2.len
        have hlen2 : (L ++ zs.take (C - L.length)).length = L.length + min len (C - L.length) := by have := HLA.out; rw [List.length_append, List.length_take]; omega
        have HI2 := Lib.hid (show ip + min len (C - L.length) = op + (L ++ zs.take (C - L.length)).length by rw [hlen2, HIP.out]; omega)
        have hp := Lib.hid (show ((min len (C - L.length) : Nat) : Int) = min (len : Int) ((C - L.length : Nat) : Int) by omega)
        have hq : ip + min len (C - L.length) ≤ 65536 * (k + 1) := by omega
        generalize ip + min len (C - L.length) = ip2 at *
        generalize L ++ zs.take (C - L.length) = L2 at *
        clear hlen2
        have R2 := Lib.hid r2
        clear r2 f2
        generalize min len (C - L.length) = mm at *
        have hpo := hp.out
        generalize C - L.length = rm at *
        have hd1 : ((mm : Int) != min (len : Int) (rm : Int)) = false := by rw [← hpo]; simp
        clear hpo
        go_wp2_with fail
        clear hd1
        have hLk := Look_any _ _ C L2 ip2 op n w2 R2.out
        have hTk := fun w h => Take_any (W1.heap.size + 1) W1.heap.size C L2 ip2 op n w h (by omega)
        have ht1 : (L2.take n.toNat).length ≤ n.toNat := by rw [List.length_take]; omega
        have ht2 : (L2.drop n.toNat).length + (L2.take n.toNat).length = L2.length := by rw [List.length_drop, List.length_take]; omega
        generalize L2.take n.toNat = T at *
        generalize L2.drop n.toNat = D at *
        have HDL := Lib.hid ht2
        have HLEN := Lib.hid (fun w h => Len_any (W1.heap.size + 1) W1.heap.size C D ip2 (op + T.length) w h)
        have HROOM := Lib.hid (fun w h => Room_any (W1.heap.size + 1) W1.heap.size C D ip2 (op + T.length) w h)
        have HT := Lib.hid hTk
        clear hTk ht2
        refine hLk.mono ?_
        rintro e w3 ⟨⟨v, rfl, v3⟩, b3⟩
        have R3 := Lib.hid (R2.out.below b3 R2.out.lt.1 R2.out.lt.2); have B3 := Lib.hid (B2.out.trans (b3.mono (by omega))); have z3 := b3.size; clear b3
        obtain ⟨A3, c3, rfl, -⟩ := v3.form
        have V3 := Lib.hid v3; clear v3 hLk
        go_wp2_with fail
        refine (Len_any _ _ C _ _ _ w3 R3.out).mono ?_
        rintro e w' ⟨rfl, rfl⟩
        go_wp2_with fail
        refine (HT.out w3 R3.out).mono ?_
        rintro e w4 ⟨⟨v, rfl, v4⟩, r4, g4⟩
        obtain ⟨A4, c4, rfl, -⟩ := v4.form
        have B4 := Lib.hid ((Fr2.of_grown (gb := W1.heap.size) g4).below B3.out (by omega) (by omega) (by omega)); have z4 := g4.size
        have I43 := Lib.hid (V3.out.fr2 (Fr2.of_grown (gb := W1.heap.size) g4) (by have := R2.out.lt; omega) (by have := R2.out.lt; omega)).1
        have I44 := Lib.hid v4.ints.1
        have R4 := Lib.hid r4
        clear V3 v4 r4 g4 HT
        generalize htn : T.length = tn at *
        have HTN := Lib.hid htn
        clear htn
        generalize hdn : D.length = dn at *
        have HDN := Lib.hid hdn
        clear hdn
        generalize L2.length = ln at *
        generalize ho2 : op + tn = o2 at *
        have HO2 := Lib.hid ho2
        clear ho2
        go_wp2_with fail
        refine (Counts_any _ _ C D ip2 o2 w4 R4.out).mono ?_
        rintro e w5 ⟨rfl, b5⟩
        have s3 := str_run (c := c3) (I43.out.below b5) HTN.out
        have s4 := str_run (c := c4) (I44.out.below b5) HTN.out
        generalize strOfNums T = ST at *
        have R5 := Lib.hid (R4.out.below b5 R4.out.lt.1 R4.out.lt.2); have B5 := Lib.hid (B4.out.trans (b5.mono (by omega))); have z5 := b5.size; clear b5
        have g1 : ((dn : Int) != (ln : Int) - (tn : Int)) = false := by have := HDL.out; simp; omega
        have g2 : (o2 : Int) ≤ (ip2 : Int) ∧ ((ip2 : Int) - (o2 : Int) != (dn : Int)) = false := by have := HDL.out; have := HI2.out; have := HO2.out; simp; omega
        obtain ⟨g2, g3⟩ := g2
        have g4 : ip2 ≤ 300000 := by omega
        go_wp2_with fail
        refine (HLEN.out w5 R5.out).mono ?_
        rintro e w' ⟨rfl, rfl⟩
        go_wp2_with fail
        refine (HLEN.out w5 R5.out).mono ?_
        rintro e w' ⟨rfl, rfl⟩
        clear g1
        go_wp2_with fail
        refine (HROOM.out w5 R5.out).mono ?_
        rintro e w6 ⟨rfl, b6⟩
        have R6 := Lib.hid (R5.out.below b6 R5.out.lt.1 R5.out.lt.2); have B6 := Lib.hid (B5.out.trans (b6.mono (by omega))); have z6 := b6.size; clear b6
        have g5 : ((dn : Int) + ((C - dn : Nat) : Int) != (C : Int)) = false := by have := HDL.out; simp; omega
        have g6 : ((C - dn : Nat) : Int) ≤ 65536 := by omega
        have g7 : (dn : Int) ≤ 65536 := by have := HDL.out; omega
        generalize C - dn = rm2 at *
        clear s3 s4
        go_wp2_with fail
        refine (HLEN.out w6 R6.out).mono ?_
        rintro e w' ⟨rfl, rfl⟩
        clear g5 g6
        have g8 : ¬ max n 0 < (tn : Int) := by omega
        go_wp2_with fail
        go_roundw
        case rel => exact ⟨k + 1, D, ip2, o2, by omega, by go_num, by omega, R6, Lib.hid (by have h0 := HDN.out; have h1 := HDL.out; have h2 := HI2.out; have h3 := HO2.out; omega), B6⟩
        case measure => simp [intOf]; omega
      · have i2 : ((k : Int) % 2 == 1) = true := by simp; omega
        go_wp2_with fail
        refine (Room_any _ _ C L ip op wr R.out).mono ?_
        rintro e w1 ⟨rfl, b1⟩
        have R1 := Lib.hid (R.out.below b1 (by omega) (by omega)); have B1 := Lib.hid (B.out.trans (b1.mono (by omega))); have z1 := b1.size; clear b1
        have I1 := Lib.hid (IB.out.below B1.out)
        go_wp2_with fail
        refine (Put_any _ _ C L ip op A' len' cap' zs' w1 R1.out I1.out HLB.out hcB hmB HBB.out (fun x o s h0 e => by have := HNB.out x o s (by omega) e; omega) (by omega)).mono ?_
        rintro e w2 ⟨rfl, r2, f2⟩
        have B2 := Lib.hid (f2.below B1.out (by omega) (by omega) (by omega)); have z2 := f2.2.2.2.1
        obtain ⟨hL2, -, -⟩ := r2.len
        have hlen2 : (L ++ zs'.take (C - L.length)).length = L.length + min len' (C - L.length) := by have := HLB.out; rw [List.length_append, List.length_take]; omega
        have HI2 := Lib.hid (show ip + min len' (C - L.length) = op + (L ++ zs'.take (C - L.length)).length by rw [hlen2, HIP.out]; omega)
        have hp := Lib.hid (show ((min len' (C - L.length) : Nat) : Int) = min (len' : Int) ((C - L.length : Nat) : Int) by omega)
        have hq : ip + min len' (C - L.length) ≤ 65536 * (k + 1) := by omega
        generalize ip + min len' (C - L.length) = ip2 at *
        generalize L ++ zs'.take (C - L.length) = L2 at *
        clear hlen2
        have R2 := Lib.hid r2
        clear r2 f2
        generalize min len' (C - L.length) = mm at *
        have hpo := hp.out
        generalize C - L.length = rm at *
        have hd1 : ((mm : Int) != min (len' : Int) (rm : Int)) = false := by rw [← hpo]; simp
        clear hpo
        go_wp2_with fail
        clear hd1
        have hLk := Look_any _ _ C L2 ip2 op n w2 R2.out
        have hTk := fun w h => Take_any (W1.heap.size + 1) W1.heap.size C L2 ip2 op n w h (by omega)
        have ht1 : (L2.take n.toNat).length ≤ n.toNat := by rw [List.length_take]; omega
        have ht2 : (L2.drop n.toNat).length + (L2.take n.toNat).length = L2.length := by rw [List.length_drop, List.length_take]; omega
        generalize L2.take n.toNat = T at *
        generalize L2.drop n.toNat = D at *
        have HDL := Lib.hid ht2
        have HLEN := Lib.hid (fun w h => Len_any (W1.heap.size + 1) W1.heap.size C D ip2 (op + T.length) w h)
        have HROOM := Lib.hid (fun w h => Room_any (W1.heap.size + 1) W1.heap.size C D ip2 (op + T.length) w h)
        have HT := Lib.hid hTk
        clear hTk ht2
        refine hLk.mono ?_
        rintro e w3 ⟨⟨v, rfl, v3⟩, b3⟩
        have R3 := Lib.hid (R2.out.below b3 R2.out.lt.1 R2.out.lt.2); have B3 := Lib.hid (B2.out.trans (b3.mono (by omega))); have z3 := b3.size; clear b3
        obtain ⟨A3, c3, rfl, -⟩ := v3.form
        have V3 := Lib.hid v3; clear v3 hLk
        go_wp2_with fail
        refine (Len_any _ _ C _ _ _ w3 R3.out).mono ?_
        rintro e w' ⟨rfl, rfl⟩
        go_wp2_with fail
        refine (HT.out w3 R3.out).mono ?_
        rintro e w4 ⟨⟨v, rfl, v4⟩, r4, g4⟩
        obtain ⟨A4, c4, rfl, -⟩ := v4.form
        have B4 := Lib.hid ((Fr2.of_grown (gb := W1.heap.size) g4).below B3.out (by omega) (by omega) (by omega)); have z4 := g4.size
        have I43 := Lib.hid (V3.out.fr2 (Fr2.of_grown (gb := W1.heap.size) g4) (by have := R2.out.lt; omega) (by have := R2.out.lt; omega)).1
        have I44 := Lib.hid v4.ints.1
        have R4 := Lib.hid r4
        clear V3 v4 r4 g4 HT
        generalize htn : T.length = tn at *
        have HTN := Lib.hid htn
        clear htn
        generalize hdn : D.length = dn at *
        have HDN := Lib.hid hdn
        clear hdn
        generalize L2.length = ln at *
        generalize ho2 : op + tn = o2 at *
        have HO2 := Lib.hid ho2
        clear ho2
        go_wp2_with fail
        refine (Counts_any _ _ C D ip2 o2 w4 R4.out).mono ?_
        rintro e w5 ⟨rfl, b5⟩
        have s3 := str_run (c := c3) (I43.out.below b5) HTN.out
        have s4 := str_run (c := c4) (I44.out.below b5) HTN.out
        generalize strOfNums T = ST at *
        have R5 := Lib.hid (R4.out.below b5 R4.out.lt.1 R4.out.lt.2); have B5 := Lib.hid (B4.out.trans (b5.mono (by omega))); have z5 := b5.size; clear b5
        have g1 : ((dn : Int) != (ln : Int) - (tn : Int)) = false := by have := HDL.out; simp; omega
        have g2 : (o2 : Int) ≤ (ip2 : Int) ∧ ((ip2 : Int) - (o2 : Int) != (dn : Int)) = false := by have := HDL.out; have := HI2.out; have := HO2.out; simp; omega
        obtain ⟨g2, g3⟩ := g2
        have g4 : ip2 ≤ 300000 := by omega
        go_wp2_with fail
        refine (HLEN.out w5 R5.out).mono ?_
        rintro e w' ⟨rfl, rfl⟩
        go_wp2_with fail
        refine (HLEN.out w5 R5.out).mono ?_
        rintro e w' ⟨rfl, rfl⟩
        clear g1
        go_wp2_with fail
        refine (HROOM.out w5 R5.out).mono ?_
        rintro e w6 ⟨rfl, b6⟩
        have R6 := Lib.hid (R5.out.below b6 R5.out.lt.1 R5.out.lt.2); have B6 := Lib.hid (B5.out.trans (b6.mono (by omega))); have z6 := b6.size; clear b6
        have g5 : ((dn : Int) + ((C - dn : Nat) : Int) != (C : Int)) = false := by have := HDL.out; simp; omega
        have g6 : ((C - dn : Nat) : Int) ≤ 65536 := by omega
        have g7 : (dn : Int) ≤ 65536 := by have := HDL.out; omega
        generalize C - dn = rm2 at *
        clear s3 s4
        go_wp2_with fail
        refine (HLEN.out w6 R6.out).mono ?_
        rintro e w' ⟨rfl, rfl⟩
        clear g5 g6
        have g8 : ¬ max n 0 < (tn : Int) := by omega
        go_wp2_with fail
        go_roundw
        case rel => exact ⟨k + 1, D, ip2, o2, by omega, by go_num, by omega, R6, Lib.hid (by have h0 := HDN.out; have h1 := HDL.out; have h2 := HI2.out; have h3 := HO2.out; omega), B6⟩
        case measure => simp [intOf]; omega
    · obtain rfl : k = 4 := by omega
      have hop : op ≤ ip := by have := HIP.out; omega
      go_wp2_with fail
      refine (Len_any _ _ C L ip op wr R.out).mono ?_
      rintro e w' ⟨rfl, rfl⟩
      go_wp2_with fail
      refine (Clear_any _ _ C L ip op wr R.out (by omega)).mono ?_
      rintro e w3 ⟨rfl, r3, g3⟩
      rw [← HIP.out] at r3
      have R3 := Lib.hid r3; have B3 := Lib.hid ((Fr2.of_grown (gb := W1.heap.size) g3).below B.out (by omega) (by omega) (by omega)); have z3 := g3.size; clear r3 g3
      go_wp2_with fail
      refine (Counts_any _ _ C [] ip ip w3 R3.out).mono ?_
      rintro e w4 ⟨rfl, b4⟩
      have R4 := Lib.hid (R3.out.below b4 R3.out.lt.1 R3.out.lt.2); have B4 := Lib.hid (B3.out.trans (b4.mono (by omega))); have z4 := b4.size; clear b4
      generalize L.length = ln at *
      go_wp2_with fail
      refine (Len_any _ _ C [] ip ip w4 R4.out).mono ?_
      rintro e w' ⟨rfl, rfl⟩
      go_wp2_with fail
      refine (Look_any _ _ C [] ip ip 5 w4 R4.out).mono ?_
      rintro e w5 ⟨⟨v, rfl, v5⟩, b5⟩
      have B5 := Lib.hid (B4.out.trans (b5.mono (by omega))); clear b5
      rw [List.take_nil] at v5
      obtain ⟨A5, c5, rfl, -⟩ := v5.form
      go_wp2_with fail
      go_ret
      exact ⟨rfl, B5.out⟩

set_option maxHeartbeats 1000000 in
theorem looks_long (c : Int) (A A' : Option Addr) (len cap len' cap' : Nat) (n : Int) (w : World) (hm : len ≤ maxLen) (hm' : len' ≤ maxLen) (h : 200 < len ∨ 200 < len') :
    Calls Try.prog 4 #[.int .i64 c, .slice A len cap, .slice A' len' cap', .int .i64 n] w fun e w' => e = .returned (.bool true) ∧ Below w.heap.size w w' := by
  unfold maxLen at hm hm'
  have HA := Lib.hid (alive_any w)
  by_cases h1 : 200 < (len : Int)
  · clear h
    go_enter Try.func4, Try.ntmps4
    go_wp2_with fail
    refine HA.out.mono ?_
    rintro e w1 ⟨rfl, b1⟩
    go_wp2_with fail
    go_ret
    exact ⟨rfl, b1⟩
  · have h1 : (len : Int) ≤ 200 := by omega
    have h2 : 200 < (len' : Int) := by omega
    clear h
    go_enter Try.func4, Try.ntmps4
    go_wp2_with fail
    refine HA.out.mono ?_
    rintro e w1 ⟨rfl, b1⟩
    go_wp2_with fail
    go_ret
    exact ⟨rfl, b1⟩
set_option maxHeartbeats 1000000 in
theorem looks_bad (c : Int) (A A' : Option Addr) (len cap len' cap' : Nat) (n : Int) (w : World) (hm : len ≤ 200) (hm' : len' ≤ 200) (h : c < 0 ∨ 65536 < c) :
    Calls Try.prog 4 #[.int .i64 c, .slice A len cap, .slice A' len' cap', .int .i64 n] w fun e w' => e = .returned (.bool true) ∧ Below w.heap.size w w' := by
  have HA := Lib.hid (alive_any w)
  have HN := Lib.hid (fun w => new_bad c w h)
  have h1 : (len : Int) ≤ 200 := by omega
  have h2 : (len' : Int) ≤ 200 := by omega
  clear h
  go_enter Try.func4, Try.ntmps4
  go_wp2_with fail
  refine HA.out.mono ?_
  rintro e w1 ⟨rfl, b1⟩
  go_wp2_with fail
  refine (HN.out w1).mono ?_
  rintro e w' ⟨rfl, rfl⟩
  go_wp2_with fail
  go_ret
  exact ⟨rfl, b1⟩
theorem looks_top (c : Int) (A : Option Addr) (len cap : Nat) (z : List Int) (A' : Option Addr) (len' cap' : Nat) (z' : List Int) (n : Int) (w : World) (w0 : (Lit.int .i64 c).wf = true) (hr : IsRow .u8 w A len cap z) (hr' : IsRow .u8 w A' len' cap' z') (w1 : (Lit.int .i64 n).wf = true) :
    Calls Try.prog 4 #[.int .i64 c, .slice A len cap, .slice A' len' cap', .int .i64 n] w fun e w' => e = .returned (.bool true) ∧ Below w.heap.size w w' := by
  obtain ⟨l, rfl, h2, h3, h4, h5⟩ := row_bytes hr
  obtain ⟨l', rfl, h2', h3', h4', h5'⟩ := row_bytes hr'
  by_cases hin : l.length ≤ 200 ∧ l'.length ≤ 200
  · by_cases hc : 0 ≤ c ∧ c ≤ 65536
    · obtain ⟨C, rfl⟩ := Int.eq_ofNat_of_zero_le hc.1
      exact looks_in C A A' cap cap' l l' n w (by omega) h4 h4' hin.1 hin.2 h2 h2' h3 h3' h5 h5' w1
    · exact looks_bad c A A' _ cap _ cap' n w hin.1 hin.2 (by omega)
  · exact looks_long c A A' _ cap _ cap' n w (by omega) (by omega) (by omega)
end Go.Proofs.Ytebnfcpikhehkaa
