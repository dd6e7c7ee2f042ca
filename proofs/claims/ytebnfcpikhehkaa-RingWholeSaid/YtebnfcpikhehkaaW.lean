/- The law RingWhole. -/
import Derived.Test.YtebnfcpikhehkaaL
namespace Go.Proofs.Ytebnfcpikhehkaa
open Go.RowKit
set_option linter.unusedSimpArgs false
set_option linter.unusedVariables false
set_option maxRecDepth 100000

/-- A call's cells, as they are read in a later world. -/
theorem OpsAt.cells {w : World} {a : Option Addr} {os : List OpV} (h : OpsAt w a os) (k : Nat) (hk : k < os.length) : ∃ (b off : Nat) (kd n : Int) (A : Option Addr) (len cap : Nat) (bs : List Int), a = some ⟨b, off, none⟩ ∧
    (∀ W, Below w.heap.size w W → W.cell? ⟨b, off + k * 3, none⟩ = some (.int .i64 kd) ∧ W.cell? ⟨b, off + k * 3 + 1, none⟩ = some (.int .i64 n) ∧ W.cell? ⟨b, off + k * 3 + 2, none⟩ = some (.slice A len cap) ∧ Ints .u8 W A bs) ∧
    bs.length = len ∧ len ≤ cap ∧ cap ≤ maxLen ∧ (∀ x ∈ bs, 0 ≤ x ∧ x < 256) ∧ (Lit.int .i64 n).wf = true ∧ (∀ b o s, 0 < len → A = some ⟨b, o, s⟩ → b < w.heap.size) := by
  obtain ⟨b, off, e, hlt, hc⟩ := h (by omega)
  obtain ⟨⟨x1, x2, x3, x4, x5, x6, x7⟩, hcells⟩ := hc k hk
  refine ⟨b, off, _, _, _, _, _, _, e, fun W hb => ⟨(hb.cell (p := ⟨b, off + k * 3, none⟩) hlt).trans (hcells 0 (by omega)), (hb.cell (p := ⟨b, off + k * 3 + 1, none⟩) hlt).trans (hcells 1 (by omega)), (hb.cell (p := ⟨b, off + k * 3 + 2, none⟩) hlt).trans (hcells 2 (by omega)), x6.below hb⟩, x3, x4, x5, x7, x2, ?_⟩
  intro b o s h0
  exact fun e => ints_lt' x6 b o s (by omega) e
where
  ints_lt' {w : World} {A : Option Addr} {zs : List Int} (h : Ints .u8 w A zs) : ∀ b o s, 0 < zs.length → A = some ⟨b, o, s⟩ → b < w.heap.size := fun b o s h0 e => by
    obtain ⟨b', o', e', hb, _⟩ := h h0
    rw [e] at e'; injection e' with e'; injection e' with e1; omega

set_option maxHeartbeats 4000000 in
theorem whole_in (C0 : Nat) (a : Option Addr) (acap : Nat) (os : List OpV) (w w1 : World) (hC0 : C0 ≤ 1000) (ho : OpsAt w a os) (hm : os.length ≤ maxLen)
    (hA : Calls Try.prog 9 #[] w fun e w' => e = .returned (.bool true) ∧ Below w.heap.size w w')
    (hG : ∀ w1, Below w.heap.size w w1 → Calls Try.prog 18 #[.slice a os.length acap] w1 (GreatR os.length w1)) :
    Calls Try.prog 5 #[.int .i64 C0, .slice a os.length acap] w fun e w' => e = .returned (.bool true) ∧ Below w.heap.size w w' := by
  have HA := Lib.hid hA; have HG := Lib.hid hG; have HO := Lib.hid ho
  clear hA hG ho hm
  generalize hlen : os.length = len at *
  have HL := Lib.hid hlen; clear hlen
  go_enter Try.func5, Try.ntmps5
  go_wp2_with fail
  refine HA.out.mono ?_
  rintro e W1 ⟨rfl, b1⟩
  have B1 := Lib.hid b1; have z1 := b1.size; clear b1
  go_wp2_with fail
  refine (HG.out W1 B1.out).mono ?_
  rintro e w' ⟨⟨g, rfl, hg⟩, rfl⟩
  cases g with
  | true =>
    clear hg
    go_wp2_with fail
    go_ret
    exact ⟨rfl, B1.out⟩
  | false =>
  skip
  have h100 : len ≤ 100 := hg rfl
  clear hg
  go_wp2_with fail
  refine (New_ok C0 W1 (by omega)).mono ?_
  rintro e w2 ⟨rfl, r2, b2⟩
  have R2 := Lib.hid r2; have l2 := r2.lt; have B2 := Lib.hid (B1.out.trans (b2.mono (by omega))); have z2 := b2.size; clear r2 b2
  go_wp2_with fail
  go_loopw [8, 9, 10] (fun sw sc i wr => ∃ (k gb C : Nat) (L Wn Cm : List Int) (ip op : Nat), k ≤ len ∧ i = .int .i64 k ∧ sw = .string (strOfNums Wn) ∧ sc = .string (strOfNums Cm) ∧ Hid (Wn = Cm ++ L) ∧ Hid (ip = Wn.length) ∧ Hid (op = Cm.length) ∧ Wn.length ≤ 65536 * k ∧ Hid (Rg wr (W1.heap.size + 1) gb C L ip op) ∧ Hid (Below w.heap.size w wr) ∧ w.heap.size ≤ gb) (fun _ _ i _ => len - (intOf i).toNat)
  case atStart => exact ⟨0, W1.heap.size, C0, [], [], [], 0, 0, by omega, rfl, rfl, rfl, Lib.hid rfl, Lib.hid rfl, Lib.hid rfl, by simp, R2, B2, by omega⟩
  case round =>
    obtain ⟨k, gb, C, L, Wn, Cm, ip, op, hk, rfl, rfl, rfl, HWN, HIP, HOP, hwl, R, B, hgb⟩ := hrel
    have hr := R.out.lt
    have hCL := R.out.len
    have hcl : Cm.length + L.length = Wn.length := by rw [HWN.out, List.length_append]
    have hsw := str_size Wn
    have hsc := str_size Cm
    have hip : ip ≤ 6553600 := by have := HIP.out; omega
    have hop : op ≤ 6553600 := by have := HOP.out; omega
    have hsw1 : (strOfNums Wn).size ≤ 6553600 := by omega
    have hsc1 : (strOfNums Cm).size ≤ 6553600 := by omega
    by_cases hlt : k < len
    · obtain ⟨b, off, kd, nn, A, bl, cap, bs, rfl, hc, hbl, hlc, hcap, hby, hnn, hAl⟩ := HO.out.cells k (by rw [HL.out]; exact hlt)
      have CL := Lib.hid hc; have BL := Lib.hid hbl; have HBY := Lib.hid hby; have HAL := Lib.hid hAl
      obtain ⟨nn0, nn1⟩ := bd_i64 hnn
      clear hc hbl hby hAl hsw hsc hnn
      obtain ⟨ck, cn, cb, -⟩ := CL.out wr B.out
      by_cases h0 : kd = 0
      · subst h0
        obtain ⟨A1, s1, j1, e1⟩ := cut_hi A bl cap (min bl (C - L.length)) (by omega) hlc
        have S1 := Lib.hid s1; have J1 := Lib.hid j1
        clear s1 j1 e1
        go_wp2_with fail
        refine (Put_any _ _ C L ip op A bl cap bs wr R.out (CL.out wr B.out).2.2.2 BL.out hlc hcap HBY.out (fun x o s h0 e => by have := HAL.out x o s h0 e; omega) (by omega)).mono ?_
        rintro e w3 ⟨rfl, r3, f3⟩
        have B3 := Lib.hid (f3.below B.out (by omega) (by omega) (by omega)); have z3 := f3.2.2.2.1
        have R3 := Lib.hid r3
        clear r3 f3 ck cn cb
        obtain ⟨ck, cn, cb, i3⟩ := CL.out w3 B3.out
        have hmb : ((min bl (C - L.length) : Nat) : Int) ≤ (bl : Int) := by omega
        have hmw : min bl (C - L.length) ≤ 65536 := by omega
        have c3 := str_run (c := cap) (J1.out w3 bs i3 BL.out) (n := min bl (C - L.length)) (by rw [List.length_take, BL.out]; omega)
        have htk : bs.take (C - L.length) = bs.take (min bl (C - L.length)) := by
          have := BL.out
          by_cases hh : bl ≤ C - L.length
          · rw [Nat.min_eq_left hh, List.take_of_length_le (by omega), List.take_of_length_le (by omega)]
          · rw [Nat.min_eq_right (by omega)]
        have R4 : Hid (Rg w3 (W1.heap.size + 1) gb C (L ++ bs.take (min bl (C - L.length))) (ip + min bl (C - L.length)) op) := by rw [← htk]; exact R3
        have htl : (bs.take (min bl (C - L.length))).length = min bl (C - L.length) := by have := BL.out; rw [List.length_take]; omega
        clear R3 htk i3
        generalize min bl (C - L.length) = mm at *
        have hst := str_size (bs.take mm)
        rw [htl] at hst
        have hst1 : (strOfNums (bs.take mm)).size ≤ 65536 := by omega
        have HST := Lib.hid (str_append Wn (bs.take mm))
        have HTL := Lib.hid htl
        clear hst htl
        generalize hX : bs.take mm = X at *
        clear hX
        generalize strOfNums X = SX at *
        generalize hSW : strOfNums Wn = SW at *
        generalize hSC : strOfNums Cm = SC at *
        have HSC := Lib.hid hSC
        clear hSW hSC
        go_wp2_with (refine wpList_slice (by rfl) 22 (.tmp 74) none (some (.tmp 75)) (by rfl) _ (S1.out _) ?_)
        go_roundw
        case rel => exact ⟨k + 1, gb, C, L ++ X, Wn ++ X, Cm, ip + mm, op, by omega, by go_num, by rw [← HST.out], by rw [HSC.out], Lib.hid (by rw [HWN.out, List.append_assoc]), Lib.hid (by have := HIP.out; have := HTL.out; rw [List.length_append]; omega), HOP, by have := HTL.out; rw [List.length_append]; omega, R4, B3, hgb⟩
        case measure => simp [intOf]; omega
      · have e0 : (kd == 0) = false := by simpa using h0
        clear h0
        by_cases h1 : kd = 1
        · subst h1
          clear e0
          go_wp2_with fail
          refine (Take_any _ _ C L ip op nn wr R.out (by omega)).mono ?_
          rintro e w3 ⟨⟨v, rfl, v3⟩, r3, g3⟩
          have B3 := Lib.hid ((Fr2.of_grown (gb := gb) g3).below B.out (by omega) (by omega) (by omega)); have z3 := g3.size
          obtain ⟨A3, c3, rfl, -⟩ := v3.form
          have s3 := v3.str
          have R3 := Lib.hid r3
          have htd := Lib.hid (List.take_append_drop nn.toNat L)
          have htl : (L.take nn.toNat).length ≤ 65536 := by rw [List.length_take]; omega
          clear r3 g3 v3 ck cn cb
          generalize L.take nn.toNat = T at *
          generalize L.drop nn.toNat = D at *
          have hst := str_size T
          have hst1 : (strOfNums T).size ≤ 65536 := by omega
          have HST := Lib.hid (str_append Cm T)
          clear hst
          generalize htn : T.length = tn at R3 s3 htl
          have HTN := Lib.hid htn
          clear htn
          generalize strOfNums T = ST at *
          generalize hSW : strOfNums Wn = SW at *
          generalize hSC : strOfNums Cm = SC at *
          have HSW := Lib.hid hSW
          clear hSC hSW
          go_wp2_with fail
          go_roundw
          case rel => exact ⟨k + 1, gb, C, D, Wn, Cm ++ T, ip, op + tn, by omega, by go_num, by rw [HSW.out], by rw [← HST.out], Lib.hid (by rw [HWN.out, List.append_assoc, htd.out]), HIP, Lib.hid (by have := HOP.out; have := HTN.out; rw [List.length_append]; omega), by omega, R3, B3, hgb⟩
          case measure => simp [intOf]; omega
        · have e1 : (kd == 1) = false := by simpa using h1
          clear h1
          by_cases h3 : kd = 3
          · subst h3
            clear e0 e1
            generalize hSW : strOfNums Wn = SW at *
            generalize hSC : strOfNums Cm = SC at *
            have HSW := Lib.hid hSW
            have HSC := Lib.hid hSC
            clear hSC hSW
            go_wp2_with fail
            by_cases hok : (L.length : Int) ≤ nn ∧ nn ≤ 65536
            · obtain ⟨cc, rfl⟩ := Int.eq_ofNat_of_zero_le (show 0 ≤ nn by omega)
              refine (Grow_ok _ _ C L ip op cc wr R.out (by omega) (by omega)).mono ?_
              rintro e w3 ⟨rfl, r3, g3⟩
              have B3 := Lib.hid ((Fr2.of_grown (gb := gb) g3).below B.out (by omega) (by omega) (by omega)); have z3 := g3.size
              have R3 := Lib.hid r3
              have hgb3 : w.heap.size ≤ wr.heap.size := B.out.size
              clear r3 g3
              generalize wr.heap.size = gb3 at R3 hgb3
              go_wp2_with fail
              go_roundw
              case rel => exact ⟨k + 1, gb3, cc, L, Wn, Cm, ip, op, by omega, by go_num, by rw [HSW.out], by rw [HSC.out], HWN, HIP, HOP, by omega, R3, B3, hgb3⟩
              case measure => simp [intOf]; omega
            · refine (Grow_bad _ _ C L ip op nn wr R.out (by omega)).mono ?_
              rintro e w' ⟨rfl, rfl⟩
              go_wp2_with fail
              go_roundw
              case rel => exact ⟨k + 1, gb, C, L, Wn, Cm, ip, op, by omega, by go_num, by rw [HSW.out], by rw [HSC.out], HWN, HIP, HOP, by omega, R, B, hgb⟩
              case measure => simp [intOf]; omega
          · have e3 : (kd == 3) = false := by simpa using h3
            clear h3
            generalize hSW : strOfNums Wn = SW at *
            generalize hSC : strOfNums Cm = SC at *
            have HSW := Lib.hid hSW
            have HSC := Lib.hid hSC
            clear hSC hSW
            go_wp2_with fail
            go_roundw
            case rel => exact ⟨k + 1, gb, C, L, Wn, Cm, ip, op, by omega, by go_num, by rw [HSW.out], by rw [HSC.out], HWN, HIP, HOP, by omega, R, B, hgb⟩
            case measure => simp [intOf]; omega
    · obtain rfl : k = len := by omega
      have HX := Lib.hid (show strOfNums Cm ++ strOfNums L = strOfNums Wn by rw [str_append, ← HWN.out])
      have hsl := str_size L
      have hsl1 : (strOfNums L).size ≤ 65536 := by omega
      have f1 : ((ip : Int) == ((strOfNums Wn).size : Int)) = true := by have := HIP.out; simp only [beq_iff_eq]; omega
      have f2 : ((op : Int) == ((strOfNums Cm).size : Int)) = true := by have := HOP.out; simp only [beq_iff_eq]; omega
      have f3 : ((L.length : Int) == ((strOfNums Wn).size : Int) - ((strOfNums Cm).size : Int)) = true := by simp only [beq_iff_eq]; omega
      clear hsw hsc hsl
      generalize hln : L.length = ln at *
      have HLN := Lib.hid hln; clear hln
      rw [← HX.out] at f1 f3 ⊢
      have hsx : (strOfNums Cm ++ strOfNums L).size = (strOfNums Cm).size + (strOfNums L).size := ByteArray.size_append
      rw [← HX.out] at hsw1
      generalize strOfNums Cm = SC at *
      generalize hSL : strOfNums L = SL at *
      have HSL := Lib.hid hSL
      clear hSL
      generalize hSS : SC ++ SL = SS at *
      have HSS := Lib.hid hSS
      clear hSS hsx
      go_wp2_with fail
      refine (Counts_any _ _ C L ip op wr R.out).mono ?_
      rintro e w3 ⟨rfl, b3⟩
      have R3 := Lib.hid (R.out.below b3 hr.1 hr.2); have B3 := Lib.hid (B.out.trans (b3.mono (by omega))); have z3 := b3.size; clear b3
      go_wp2_with fail
      refine (Len_any _ _ C L ip op w3 R3.out).mono ?_
      rintro e w' ⟨rfl, rfl⟩
      rw [HLN.out]
      go_wp2_with fail
      refine (Look_any _ _ C L ip op ln w3 R3.out).mono ?_
      rintro e w4 ⟨⟨v, rfl, v4⟩, b4⟩
      have R4 := Lib.hid (R3.out.below b4 (by omega) (by omega)); have B4 := Lib.hid (B3.out.trans (b4.mono (by omega))); have z4 := b4.size; clear b4
      rw [Int.toNat_natCast, List.take_of_length_le (by have := HLN.out; omega)] at v4
      obtain ⟨A4, c4, rfl, -⟩ := v4.form
      have s4 := v4.str
      rw [HLN.out] at s4 ⊢
      rw [HSL.out] at s4
      clear v4
      have hss := HSS.out
      go_wp2_with fail
      refine (Len_any _ _ C L ip op w4 R4.out).mono ?_
      rintro e w' ⟨rfl, rfl⟩
      rw [HLN.out]
      clear hss s4
      go_wp2_with fail
      go_ret
      exact ⟨rfl, B4.out⟩

set_option maxHeartbeats 2000000 in
theorem whole_out (c : Int) (A : Value) (n : Nat) (w : World) (h : c < 0 ∨ 1000 < c) (hG : ∀ w1, Below w.heap.size w w1 → Calls Try.prog 18 #[A] w1 (GreatR n w1)) :
    Calls Try.prog 5 #[.int .i64 c, A] w fun e w' => e = .returned (.bool true) ∧ Below w.heap.size w w' := by
  have HA := Lib.hid (alive_any w)
  have HG := Lib.hid hG
  clear hG
  by_cases h1 : c < 0
  case' neg =>
    have h1 : 0 ≤ c := by omega
    have h2 : 1000 < c := by omega
  all_goals
    clear h
    go_enter Try.func5, Try.ntmps5
    go_wp2_with fail
    refine HA.out.mono ?_
    rintro e w1 ⟨rfl, b1⟩
    go_wp2_with fail
    refine (HG.out w1 b1).mono ?_
    rintro e w' ⟨⟨g, rfl, hg⟩, rfl⟩
    clear hg
    cases g
    all_goals
      go_wp2_with fail
      go_ret
      exact ⟨rfl, b1⟩
theorem whole_top {H : Type} {enc : TypeId × Value → H} {base : Nat} {held : Bool} (c : Int) (v : Value) (d : DataW H) (p : List MemPlace) (w : World) (w0 : (Lit.int .i64 c).wf = true) {r : Reach} {b0 : Nat} (hv : Value.okWide Try.prog w r b0 36 v) (h : DataW.Trod enc Try.prog w base (fun _ => true) held 36 v d p) :
    Calls Try.prog 5 #[.int .i64 c, v] w fun e w' => e = .returned (.bool true) ∧ Below w.heap.size w w' := by
  obtain ⟨a, cap, os, rfl, hm, ho⟩ := open_ops hv h
  have hG : ∀ w1, Below w.heap.size w w1 → Calls Try.prog 18 #[.slice a os.length cap] w1 (GreatR os.length w1) := fun w1 hb => great_any a cap os w1 (ho.below hb) hm
  by_cases hin : 0 ≤ c ∧ c ≤ 1000
  · obtain ⟨C, rfl⟩ := Int.eq_ofNat_of_zero_le hin.1
    exact whole_in C a cap os w w (by omega) ho hm (alive_any w) hG
  · exact whole_out c (.slice a os.length cap) os.length w (by omega) hG
end Go.Proofs.Ytebnfcpikhehkaa
