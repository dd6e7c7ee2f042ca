/- The law RingParts. -/
import Derived.Test.YtebnfcpikhehkaaH
namespace Go.Proofs.Ytebnfcpikhehkaa
open Go.RowKit Go.Shelf
set_option linter.unusedSimpArgs false
set_option linter.unusedVariables false
set_option maxRecDepth 100000

theorem Rg.fr2 {w w' : World} {g gb C : Nat} {L : List Int} {ip op : Nat} {h hb : Nat} (k : Rg w g gb C L ip op) (f : Fr2 h hb w w') (n1 : g ≠ h) (n2 : g ≠ hb) (n3 : gb ≠ h) (n4 : gb ≠ hb) : Rg w' g gb C L ip op :=
  k.same (f.2.2.2.2 _ k.lt.1 n1 n2) (f.2.2.2.2 _ k.lt.2 n3 n4)
theorem Rg.grown {w w' : World} {g gb C : Nat} {L : List Int} {ip op : Nat} {h : Nat} (k : Rg w g gb C L ip op) (f : w.grownBy w' (some h)) (n1 : g ≠ h) (n3 : gb ≠ h) : Rg w' g gb C L ip op :=
  k.same (f.block _ k.lt.1 (fun e => n1 (by injection e))) (f.block _ k.lt.2 (fun e => n3 (by injection e)))
theorem Ints.low {kd : IntKind} {w w' : World} {a : Option Addr} {zs : List Int} (h : Ints kd w a zs) (hb : Below w.heap.size w w') : Ints kd w' a zs := h.below hb
theorem Got.str {w : World} {base : Nat} {A : Option Addr} {n c : Nat} {zs : List Int} (h : Got w base (.slice A n c) zs) : (convert 22 9 (.slice A n c)).run Try.prog w = .ok (.string (strOfNums zs)) w := str_run h.ints.1 h.ints.2

theorem str_size (l : List Int) : (strOfNums l).size = l.length := by
  unfold strOfNums
  show (List.toArray _).size = _
  simp

set_option maxHeartbeats 4000000 in
theorem parts_in (C : Nat) (A : Option Addr) (cap : Nat) (zs : List Int) (cut tk : Int) (w : World) (hC : C ≤ 1000) (hi : Ints .u8 w A zs) (hl : zs.length ≤ 2000) (hc : zs.length ≤ cap) (hcap : cap ≤ maxLen) (hby : ∀ x ∈ zs, 0 ≤ x ∧ x < 256) (w1 : (Lit.int .i64 cut).wf = true) (w2 : (Lit.int .i64 tk).wf = true) :
    Calls Try.prog 3 #[.int .i64 C, .slice A zs.length cap, .int .i64 cut, .int .i64 tk] w fun e w' => e = .returned (.bool true) ∧ Below w.heap.size w w' := by
  obtain ⟨t, kk, q1, t0, t1, q2, k0, k1⟩ := tmod_bd cut zs.length
  obtain ⟨n, rfl⟩ := Int.eq_ofNat_of_zero_le k0
  obtain ⟨u, mm, q3, u0, u1, q4, m0, m1⟩ := tmod_1000 tk
  obtain ⟨m, rfl⟩ := Int.eq_ofNat_of_zero_le m0
  obtain ⟨c1, c2⟩ := bd_i64 w1
  obtain ⟨d1, d2⟩ := bd_i64 w2
  clear w1 w2
  obtain ⟨A1, s1, j1, e1⟩ := cut_hi A zs.length cap n (by omega) hc
  obtain ⟨A2, s2, j2, e2⟩ := cut_lo A zs.length cap n (by omega) hc
  have hA : ∀ b o s, 0 < zs.length → A = some ⟨b, o, s⟩ → b < w.heap.size := fun b o s h0 e => by
    obtain ⟨b', o', e', hb, _⟩ := hi h0
    rw [e] at e'; injection e' with e'; injection e' with e1; omega
  have HA := Lib.hid (alive_any w)
  have HI := Lib.hid hi
  have Hm : Hid (∀ b o s, 0 < zs.length → A = some ⟨b, o, s⟩ → b < w.heap.size) := Lib.hid hA
  have S1 := Lib.hid s1; have J1 := Lib.hid j1; have E1 := Lib.hid e1
  have S2 := Lib.hid s2; have J2 := Lib.hid j2; have E2 := Lib.hid e2
  have HB := Lib.hid hby
  clear hi hA s1 j1 e1 s2 j2 e2 hby
  have Q1 := Lib.hid q1; have Q2 := Lib.hid q2; have Q3 := Lib.hid q3; have Q4 := Lib.hid q4
  clear q1 q2 q3 q4 k0 m0
  generalize hlen : zs.length = len at *
  have HLEN := Lib.hid hlen; clear hlen
  go_enter Try.func3, Try.ntmps3
  go_wp2_with fail
  refine HA.out.mono ?_
  rintro e w1 ⟨rfl, b1⟩
  have B1 := Lib.hid b1; have z1 := b1.size; clear b1
  go_wp2_with fail
  refine (New_ok C w1 (by omega)).mono ?_
  rintro e w2 ⟨rfl, r2, b2⟩
  have R2 := Lib.hid r2; have l2 := r2.lt; have B2 := Lib.hid (B1.out.trans (b2.mono (by omega))); have z2 := b2.size; clear r2 b2
  go_wp2_with fail
  refine (New_ok C w2 (by omega)).mono ?_
  rintro e w3 ⟨rfl, r3, b3⟩
  have R3 := Lib.hid (R2.out.below b3 (by omega) (by omega)); have T3 := Lib.hid r3; have l3 := r3.lt; have B3 := Lib.hid (B2.out.trans (b3.mono (by omega))); have z3 := b3.size; clear r3 b3
  have q1 := Q1.out; have q2 := Q2.out
  go_wp2_with fail
  clear q1 q2
  rw [Q2.out]
  have hx1 : ([] : List Int) ++ zs.take (C - ([] : List Int).length) = zs.take C := by simp
  have hx2 : ([] : List Int) ++ (zs.take n).take (C - ([] : List Int).length) = (zs.take n).take C := by simp
  have hx3 := put_parts zs C n
  obtain ⟨a, ha⟩ : ∃ a, a = min len (C - ([] : List Int).length) := ⟨_, rfl⟩
  obtain ⟨b, hb⟩ : ∃ b, b = min n (C - ([] : List Int).length) := ⟨_, rfl⟩
  obtain ⟨d, hd⟩ : ∃ d, d = min (len - n) (C - ((zs.take n).take C).length) := ⟨_, rfl⟩
  have hsum : ((a : Int) == (b : Int) + (d : Int)) = true := by
    have := HLEN.out
    rw [List.length_take, List.length_take] at hd
    simp only [List.length_nil, Nat.sub_zero] at ha hb
    simp only [beq_iff_eq]
    omega
  have hbnd : b ≤ 1000 ∧ d ≤ 1000 := by simp only [List.length_nil, Nat.sub_zero] at hb; omega
  have X1 := Lib.hid hx1; have X2 := Lib.hid hx2; have X3 := Lib.hid hx3; have Y1 := Lib.hid ha; have Y2 := Lib.hid hb; have Y3 := Lib.hid hd
  have HSUM := Lib.hid hsum
  clear hx1 hx2 hx3 ha hb hd hsum
  have IW : ∀ W, Below w.heap.size w W → Ints .u8 W A zs := fun W h => HI.out.below h
  have I3 := Lib.hid (IW w3 B3.out)
  clear IW
  have hnA : ∀ g gb : Nat, w.heap.size ≤ g → w.heap.size ≤ gb → ∀ x o s, 0 < len → A = some ⟨x, o, s⟩ → x ≠ g ∧ x ≠ gb := fun g gb h1 h2 x o s h0 e => by have := Hm.out x o s h0 e; omega
  have NA := Lib.hid hnA; clear hnA
  have hbt : (∀ x ∈ zs.take n, 0 ≤ x ∧ x < 256) ∧ (∀ x ∈ zs.drop n, 0 ≤ x ∧ x < 256) := ⟨fun x h => HB.out x (List.mem_of_mem_take h), fun x h => HB.out x (List.mem_of_mem_drop h)⟩
  have HBT := Lib.hid hbt; clear hbt
  refine (Put_any _ _ C [] 0 0 A len cap zs w3 R3.out I3.out HLEN.out hc hcap HB.out (NA.out _ _ (by omega) (by omega)) (by omega)).mono ?_
  rintro e w4 ⟨he, r4, f4⟩
  rw [X1.out] at r4
  rw [← Y1.out] at he
  subst he
  have R4 := Lib.hid r4; have T4 := Lib.hid (T3.out.fr2 f4 (by omega) (by omega) (by omega) (by omega)); have B4 := Lib.hid (f4.below B3.out (by omega) (by omega) (by omega)); have z4 := f4.2.2.2.1
  clear r4 f4
  have I4 := Lib.hid (HI.out.below B4.out)
  go_wp2_with (refine wpList_slice (by rfl) 22 (.tmp 71) none (some (.tmp 72)) (by rfl) _ (S1.out _) ?_)
  refine (Put_any _ _ C [] 0 0 A1 n cap (zs.take n) w4 T4.out (J1.out _ _ I4.out HLEN.out) (by have := HLEN.out; rw [List.length_take]; omega) (by omega) hcap HBT.out.1 (fun x o s h0 e => by obtain ⟨o', s', e'⟩ := E1.out x o s e; exact NA.out _ _ (by omega) (by omega) x o' s' (by omega) e') (by omega)).mono ?_
  rintro e w5 ⟨he, r5, f5⟩
  rw [X2.out] at r5
  rw [← Y2.out] at he r5
  subst he
  have T5 := Lib.hid r5; have R5 := Lib.hid (R4.out.fr2 f5 (by omega) (by omega) (by omega) (by omega)); have B5 := Lib.hid (f5.below B4.out (by omega) (by omega) (by omega)); have z5 := f5.2.2.2.1
  clear r5 f5
  have I5 := Lib.hid (HI.out.below B5.out)
  go_wp2_with (refine wpList_slice (by rfl) 22 (.tmp 76) (some (.tmp 77)) none (by rfl) _ (S2.out _) ?_)
  refine (Put_any _ _ C _ _ 0 A2 (len - n) (cap - n) (zs.drop n) w5 T5.out (J2.out _ _ I5.out HLEN.out) (by have := HLEN.out; rw [List.length_drop]; omega) (by omega) (by omega) HBT.out.2 (fun x o s h0 e => by obtain ⟨o', s', e'⟩ := E2.out x o s e; exact NA.out _ _ (by omega) (by omega) x o' s' (by omega) e') (by omega)).mono ?_
  rintro e w6 ⟨he, r6, f6⟩
  rw [X3.out] at r6
  rw [← Y3.out] at he r6
  subst he
  have T6 := Lib.hid r6; have R6 := Lib.hid (R5.out.fr2 f6 (by omega) (by omega) (by omega) (by omega)); have B6 := Lib.hid (f6.below B5.out (by omega) (by omega) (by omega)); have z6 := f6.2.2.2.1
  clear r6 f6
  generalize zs.take C = X at *
  clear I3 I4 I5 R2 R3 R4 R5 T3 T4 T5 B1 B2 B3 B4 B5 J1 J2 S1 S2 E1 E2 NA HBT HI X1 X2 X3
  have q3 := Q3.out
  have q4 := Q4.out
  go_wp2_with fail
  rw [Q4.out]
  clear q3 q4
  have h2 : ((m : Int) / 2).toNat = m / 2 := by omega
  have h3 : ((m : Int) - (m : Int) / 2).toNat = m - m / 2 := by omega
  have h4 : X.take (m / 2) ++ (X.drop (m / 2)).take (m - m / 2) = X.take m := by rw [← List.take_add, show m / 2 + (m - m / 2) = m by omega]
  have h5 : (X.drop (m / 2)).drop (m - m / 2) = X.drop m := by rw [List.drop_drop, show m / 2 + (m - m / 2) = m by omega]
  have H2 := Lib.hid h2; have H3 := Lib.hid h3; have H4 := Lib.hid h4; have H5 := Lib.hid h5
  clear h2 h3 h4 h5
  have i0 : (0 : Int) ≤ (m : Int) := by omega
  refine (Take_any _ _ C X _ 0 (m : Int) w6 R6.out (by omega)).mono ?_
  rintro e w7 ⟨⟨v, rfl, v7⟩, r7, g7⟩
  rw [Int.toNat_natCast] at v7 r7
  obtain ⟨A7, c7, rfl, -⟩ := v7.form
  have s7 := v7.str
  rw [← H4.out, ← str_append] at s7
  have R7 := Lib.hid r7; have T7 := Lib.hid (T6.out.grown g7 (by omega) (by omega)); have B7 := Lib.hid ((Fr2.of_grown (gb := w2.heap.size) g7).below B6.out (by omega) (by omega) (by omega)); have z7 := g7.size
  rw [show X.take (m / 2) ++ (X.drop (m / 2)).take (m - m / 2) = X.take m from H4.out] at s7
  clear r7 g7 v7
  generalize (X.take m).length = n7 at *
  go_wp2_with fail
  clear s7
  refine (Take_any _ _ C X _ 0 _ w7 T7.out (by omega)).mono ?_
  rintro e w8 ⟨⟨v, rfl, v8⟩, r8, g8⟩
  rw [H2.out] at v8 r8
  obtain ⟨A8, c8, rfl, -⟩ := v8.form
  have s8 := v8.str
  have T8 := Lib.hid r8; have R8 := Lib.hid (R7.out.grown g8 (by omega) (by omega)); have B8 := Lib.hid ((Fr2.of_grown (gb := w2.heap.size) g8).below B7.out (by omega) (by omega) (by omega)); have z8 := g8.size
  clear r8 g8 v8
  have n8b : (X.take (m / 2)).length ≤ 999 := by rw [List.length_take]; omega
  generalize (X.take (m / 2)).length = n8 at *
  have z8b : (strOfNums (X.take (m / 2))).size ≤ 999 := by rw [str_size, List.length_take]; omega
  generalize strOfNums (X.take (m / 2)) = S8 at *
  go_wp2_with fail
  clear s8
  refine (Take_any _ _ C _ _ _ _ w8 T8.out (by omega)).mono ?_
  rintro e w9 ⟨⟨v, rfl, v9⟩, r9, g9⟩
  rw [H3.out] at v9 r9
  rw [H5.out] at r9
  obtain ⟨A9, c9, rfl, -⟩ := v9.form
  have s9 := v9.str
  have T9 := Lib.hid r9; have R9 := Lib.hid (R8.out.grown g9 (by omega) (by omega)); have B9 := Lib.hid ((Fr2.of_grown (gb := w2.heap.size) g9).below B8.out (by omega) (by omega) (by omega)); have z9 := g9.size
  clear r9 g9 v9
  generalize ((X.drop (m / 2)).take (m - m / 2)).length = n9 at *
  have z9b : (strOfNums ((X.drop (m / 2)).take (m - m / 2))).size ≤ 999 := by rw [str_size, List.length_take]; omega
  generalize strOfNums ((X.drop (m / 2)).take (m - m / 2)) = S9 at *
  generalize X.drop m = Xd at *
  have hs := HSUM.out
  go_wp2_with fail
  refine (Len_any _ _ C _ _ _ w9 R9.out).mono ?_
  rintro e w' ⟨rfl, rfl⟩
  clear s9
  go_wp2_with fail
  refine (Len_any _ _ C _ _ _ w9 T9.out).mono ?_
  rintro e w' ⟨rfl, rfl⟩
  go_wp2_with fail
  go_ret
  exact ⟨rfl, B9.out⟩

set_option maxHeartbeats 1000000 in
theorem parts_out (c : Int) (A : Option Addr) (len cap : Nat) (cut tk : Int) (w : World) (hm : len ≤ maxLen) (h : (c < 0 ∨ 1000 < c) ∨ 2000 < len) :
    Calls Try.prog 3 #[.int .i64 c, .slice A len cap, .int .i64 cut, .int .i64 tk] w fun e w' => e = .returned (.bool true) ∧ Below w.heap.size w w' := by
  unfold maxLen at hm
  have HA := Lib.hid (alive_any w)
  by_cases h1 : c < 0
  · clear h
    go_enter Try.func3, Try.ntmps3
    go_wp2_with fail
    refine HA.out.mono ?_
    rintro e w1 ⟨rfl, b1⟩
    go_wp2_with fail
    go_ret
    exact ⟨rfl, b1⟩
  · have h1 : 0 ≤ c := by omega
    by_cases h2 : 1000 < c
    · clear h
      go_enter Try.func3, Try.ntmps3
      go_wp2_with fail
      refine HA.out.mono ?_
      rintro e w1 ⟨rfl, b1⟩
      go_wp2_with fail
      go_ret
      exact ⟨rfl, b1⟩
    · have h2 : c ≤ 1000 := by omega
      have h3 : 2000 < (len : Int) := by omega
      clear h
      go_enter Try.func3, Try.ntmps3
      go_wp2_with fail
      refine HA.out.mono ?_
      rintro e w1 ⟨rfl, b1⟩
      go_wp2_with fail
      go_ret
      exact ⟨rfl, b1⟩

/-- What a row of bytes that came in gives. -/
theorem row_bytes {w : World} {A : Option Addr} {len cap : Nat} {z : List Int} (h : IsRow .u8 w A len cap z) : ∃ l : List Int, l.length = len ∧ len ≤ cap ∧ cap ≤ maxLen ∧ Ints .u8 w A l ∧ (∀ x ∈ l, 0 ≤ x ∧ x < 256) := by
  obtain ⟨l, h1, h2, h3, h4, h5⟩ := h.ints
  exact ⟨l, h1, h2, h3, h4, fun x hx => by have := bd_u8 (h5 x hx); omega⟩
theorem parts_top (c : Int) (A : Option Addr) (len cap : Nat) (z : List Int) (cut tk : Int) (w : World) (w0 : (Lit.int .i64 c).wf = true) (hr : IsRow .u8 w A len cap z) (w1 : (Lit.int .i64 cut).wf = true) (w2 : (Lit.int .i64 tk).wf = true) :
    Calls Try.prog 3 #[.int .i64 c, .slice A len cap, .int .i64 cut, .int .i64 tk] w fun e w' => e = .returned (.bool true) ∧ Below w.heap.size w w' := by
  obtain ⟨l, rfl, h2, h3, h4, h5⟩ := row_bytes hr
  by_cases hin : (0 ≤ c ∧ c ≤ 1000) ∧ l.length ≤ 2000
  · obtain ⟨C, rfl⟩ := Int.eq_ofNat_of_zero_le hin.1.1
    exact parts_in C A cap l cut tk w (by omega) h4 hin.2 h2 h3 h5 w1 w2
  · exact parts_out c A l.length cap cut tk w (by omega) (by omega)
end Go.Proofs.Ytebnfcpikhehkaa
