/- told. -/
import Derived.Deep.RegionHeld3
import Derived.Test.YtllolfbjmpaamaaRc
namespace Go.Proofs.Ytllolfbjmpaamaa
open Go.RowKit
set_option linter.unusedSimpArgs false
set_option linter.unusedVariables false
set_option maxRecDepth 100000

theorem look_step (L : List It) (t : It) (x : Int) : (look (L ++ [t]) x).isSome = ((look L x).isSome || (t.id == x)) := by
  unfold look
  rw [List.find?_append]
  cases List.find? (fun t => t.id == x) L with
  | some s => rfl
  | none =>
    by_cases h : t.id = x <;> simp [h]

set_option maxHeartbeats 8000000 in
theorem told_any (w : World) (g : Nat) (S : Nat → Prop) (r : Nat) (v : Value) (N : Nat) (L : List It) (o : OpV) (hp : Qw w g S N L) (hr : Rf w r v N L) (hN : N ≤ 9000) (hok : o.ok) :
    Calls Try.prog 28 #[.pointer (some ⟨g, 0, none⟩), .pointer (some ⟨r, 0, none⟩), .agg #[.int .i64 o.kd, .int .i64 o.ev, .int .i64 o.fd, .int .i64 o.wn]] w fun e w' => e = .returned (.bool true) ∧ Below w.heap.size w w' := by
  obtain ⟨kd, ev, fd, wn⟩ := o
  obtain ⟨W0, hW0⟩ : ∃ W0, W0 = w.alloc (.cells #[.int .i64 kd, .int .i64 ev, .int .i64 fd, .int .i64 wn] 35) := ⟨_, rfl⟩
  have B0 : Hid (Below w.heap.size w W0) := Lib.hid (by rw [hW0]; exact (Below.refl _ w).alloc (Nat.le_refl _) _)
  have X0 : Hid (Bx W0 w.heap.size ⟨kd, ev, fd, wn⟩) := Lib.hid (by rw [hW0]; exact new_block _ _)
  have P0 := Lib.hid (hp.below B0.out)
  have R0 := Lib.hid (hr.below B0.out)
  have HOK := Lib.hid hok
  clear hp hr hok
  obtain ⟨A, c, rfl, hlc, hcm, hq, hcell⟩ := R0.out.at
  have hln := R0.out.ln
  have HC := Lib.hid hcell; have HQ := Lib.hid hq
  have HX : Hid (∀ W, Below W0.heap.size W0 W → Bx W w.heap.size ⟨kd, ev, fd, wn⟩) := Lib.hid (fun W h => X0.out.below h)
  have HT : Hid (L.take L.length = L) := Lib.hid (List.take_length ..)
  clear hcell hq X0
  unfold maxLen at hcm
  have HLN : Hid (L.length = L.length) := Lib.hid rfl
  generalize hll : L.length = ln at *
  replace HLN := Lib.hid hll
  clear hll
  go_enter Try.func28, Try.ntmps28
  go_upto_region 2 with (fail)
  rw [← hW0]
  clear hW0
  have q1 := HQ.out _ (Below.refl _ _)
  go_wp2_with fail
  have HSZ := Lib.hid B0.out.size
  generalize hbx : w.heap.size = bx at *
  have HBX := Lib.hid hbx
  clear hbx
  go_loopw [7, 17] (fun s i wr => ∃ k : Nat, k ≤ ln ∧ i = .int .i64 k ∧ s = .bool (look (L.take k) ev).isSome ∧ Below W0.heap.size W0 wr) (fun _ i _ => ln - (intOf i).toNat)
  case atStart => exact ⟨0, Nat.zero_le _, rfl, rfl, Below.refl _ _⟩
  case round =>
    clear q1
    obtain ⟨wq, hwq⟩ : ∃ wq : World, wq = wr := ⟨_, rfl⟩
    obtain ⟨k, hk, rfl, rfl, hb⟩ := hrel
    have q1 := HQ.out _ hb
    obtain ⟨-, x1, x2, x3⟩ := (HX.out _ hb).cells
    simp only at x1 x2 x3
    by_cases hkl : k < ln
    · obtain ⟨t, b, ht, rfl, hW⟩ := HC.out k hkl
      obtain ⟨c0, c1, c2⟩ := hW wr hb
      have hst := take_step ht
      have hls := look_step (L.take k) t ev
      rw [← hst] at hls
      have HLS := Lib.hid hls
      have hkl2 : (k : Int) < (ln : Int) := by omega
      clear hst hls hW ht
      cases hs : (look (L.take k) ev).isSome
      · rw [hs] at HLS
        cases he : (t.id == ev)
        all_goals
          rw [he] at HLS
          clear hs
          generalize t.id = ti at *
          go_wp2_with fail
          go_quiet (fail)
          go_wp2_with fail
          go_roundw
          case rel => exact ⟨k + 1, by omega, by go_num, by rw [HLS.out]; rfl, below_drewN hb _⟩
          case measure => simp [intOf]; omega
      · rw [hs] at HLS
        clear hs
        generalize t.id = ti at *
        go_wp2_with fail
        go_quiet (fail)
        go_wp2_with fail
        go_roundw
        case rel => exact ⟨k + 1, by omega, by go_num, by rw [HLS.out]; rfl, below_drewN hb _⟩
        case measure => simp [intOf]; omega
    · obtain rfl : k = ln := by omega
      rw [HT.out]
      have P1 := Lib.hid (P0.out.below hb)
      have B1 := Lib.hid (B0.out.trans (hb.mono HSZ.out))
      clear hwq wq
      go_wp2_with fail
      refine (Of_any wr g S N L fd P1.out (by omega)).mono ?_
      rintro e w2 ⟨⟨v2, rfl, r2⟩, b2⟩
      have P2 := Lib.hid (P1.out.below b2)
      have D2 := Lib.hid (hb.trans (b2.mono hb.size))
      have U2 := Lib.hid (row_base r2)
      clear r2 b2 P1 q1 x1 x2 x3
      have q1 := HQ.out _ D2.out
      obtain ⟨-, x1, x2, x3⟩ := (HX.out _ D2.out).cells
      simp only at x1 x2 x3
      go_wp2_with fail
      refine (OfSignal_any w2 g S N L fd P2.out (by omega)).mono ?_
      rintro e w3 ⟨⟨v3, rfl, r3⟩, b3⟩
      have P3 := Lib.hid (P2.out.below b3)
      have D3 := Lib.hid (D2.out.trans (b3.mono D2.out.size))
      have U3 := Lib.hid (row_keep U2.out b3)
      have V3 := Lib.hid (row_base r3)
      clear r3 b3 P2 U2 D2 q1 x1 x2 x3
      have q1 := HQ.out _ D3.out
      obtain ⟨-, x1, x2, x3⟩ := (HX.out _ D3.out).cells
      simp only at x1 x2 x3
      go_wp2_with fail
      refine (Check_any w3 g S N L ev fd wn P3.out (by omega) HOK.out.e HOK.out.w).mono ?_
      rintro e w4 ⟨rfl, b4⟩
      have P4 := Lib.hid (P3.out.below b4)
      have D4 := Lib.hid (D3.out.trans (b4.mono D3.out.size))
      have U4 := Lib.hid (row_keep U3.out b4)
      have V4 := Lib.hid (row_keep V3.out b4)
      clear b4 P3 U3 V3 D3 q1 x1 x2 x3
      have HK : Hid (∀ W, Below w4.heap.size w4 W → W.cell? ⟨bx, 1, none⟩ = some (.int .i64 ev) ∧ W.cell? ⟨bx, 2, none⟩ = some (.int .i64 fd) ∧ W.cell? ⟨bx, 3, none⟩ = some (.int .i64 wn) ∧ W.cell? ⟨r, 0, none⟩ = some (.slice A k c)) := Lib.hid (fun W h => by
        have hb := D4.out.trans (h.mono D4.out.size)
        obtain ⟨-, x1, x2, x3⟩ := (HX.out _ hb).cells
        exact ⟨x1, x2, x3, HQ.out _ hb⟩)
      have R4 := Lib.hid (R0.out.below D4.out)
      have hok4 := R4.out.ok
      have HHAS := Lib.hid (fun (W : World) (h : Below w4.heap.size w4 W) => (Has_any W g S N L ev (P4.out.below h) HOK.out.e).mono (R' := fun e w' => e = .returned (.bool (look L ev).isSome) ∧ Below w4.heap.size w4 w') (by rintro e w' ⟨h1, h2⟩; exact ⟨h1, h.trans (h2.mono h.size)⟩))
      have HLEN := Lib.hid (fun (W : World) (h : Below w4.heap.size w4 W) => (Len_any W g S N L (P4.out.below h)).mono (R' := fun e w' => e = .returned (.int .i64 L.length) ∧ Below w4.heap.size w4 w') (by rintro e w' ⟨h1, rfl⟩; exact ⟨h1, h⟩))
      rw [HLN.out] at HLEN
      have HWA := Lib.hid (fun (W : World) (h : Below w4.heap.size w4 W) => (Wants_any W g S N L fd (P4.out.below h) (by omega)).mono (R' := fun e w' => e = .returned (.int .i64 (wants L fd)) ∧ Below w4.heap.size w4 w') (by rintro e w' ⟨h1, rfl⟩; exact ⟨h1, h⟩))
      have HRW := Lib.hid (fun (W : World) (h : Below w4.heap.size w4 W) => (rwants_any W r _ N L fd (R4.out.below h) (by omega)).mono (R' := fun e w' => e = .returned (.int .i64 (wants L fd)) ∧ Below w4.heap.size w4 w') (by rintro e w' ⟨h1, rfl⟩; exact ⟨h1, h⟩))
      have HRF := Lib.hid (fun (W : World) (h : Below w4.heap.size w4 W) => (rof_any W r _ N L fd false (R4.out.below h) (by omega)).mono (R' := fun e w' => (∃ v', e = .returned v' ∧ w'.ownsRow 0 3 1 v' (ofL L fd).length (flat (ofL L fd))) ∧ Below w4.heap.size w4 w') (by rintro e w' ⟨⟨v', h1, h2⟩, h3⟩; rw [rof_of hok4] at h2; exact ⟨⟨v', h1, row_base h2⟩, h.trans (h3.mono h.size)⟩))
      have HRS := Lib.hid (fun (W : World) (h : Below w4.heap.size w4 W) => (rof_any W r _ N L fd true (R4.out.below h) (by omega)).mono (R' := fun e w' => (∃ v', e = .returned v' ∧ w'.ownsRow 0 3 1 v' (sigL L fd).length (flat (sigL L fd))) ∧ Below w4.heap.size w4 w') (by rintro e w' ⟨⟨v', h1, h2⟩, h3⟩; rw [rof_sig hok4] at h2; exact ⟨⟨v', h1, row_base h2⟩, h.trans (h3.mono h.size)⟩))
      have HRC := Lib.hid (fun (W : World) (h : Below w4.heap.size w4 W) => (rcheck_any W r _ N L ev fd wn (R4.out.below h) (by omega)).mono (R' := fun e w' => e = .returned (.int .i64 (chk L ev fd wn)) ∧ Below w4.heap.size w4 w') (by rintro e w' ⟨h1, h2⟩; exact ⟨h1, h.trans (h2.mono h.size)⟩))
      have HSA := Lib.hid (fun (W : World) (h : Below w4.heap.size w4 W) (u : Value) (hu : W.ownsRow 0 3 1 u (ofL L fd).length (flat (ofL L fd))) => (same_any W v2 u (ids (ofL L fd)) (by have := ofL_len L fd; have := HLN.out; simp [ids]; omega) (row_ids (row_keep U4.out h)) (row_ids hu)).mono (R' := fun e w' => e = .returned (.bool true) ∧ Below w4.heap.size w4 w') (by rintro e w' ⟨h1, h2⟩; exact ⟨h1, h.trans (h2.mono h.size)⟩))
      have HSB := Lib.hid (fun (W : World) (h : Below w4.heap.size w4 W) (u : Value) (hu : W.ownsRow 0 3 1 u (sigL L fd).length (flat (sigL L fd))) => (same_any W v3 u (ids (sigL L fd)) (by have := sigL_len L fd; have := HLN.out; simp [ids]; omega) (row_ids (row_keep V4.out h)) (row_ids hu)).mono (R' := fun e w' => e = .returned (.bool true) ∧ Below w4.heap.size w4 w') (by rintro e w' ⟨h1, h2⟩; exact ⟨h1, h.trans (h2.mono h.size)⟩))
      have HSZ2 := Lib.hid (Nat.le_trans HSZ.out D4.out.size)
      have B4 := Lib.hid (B0.out.trans (D4.out.mono HSZ.out))
      clear P4 R4 U4 V4 hok4 D4 HX HQ HC P0 R0 B0 B1 hb
      generalize (look L ev).isSome = hs at *
      generalize wants L fd = ws at *
      generalize chk L ev fd wn = ck at *
      obtain ⟨x1, x2, x3, q1⟩ := HK.out _ (Below.refl _ _)
      go_upto_region 10 with (fail)
      go_region_held3 (fun w' => w'.cell? ⟨bx, 1, none⟩ = some (.int .i64 ev) ∧ w'.cell? ⟨bx, 2, none⟩ = some (.int .i64 fd) ∧ w'.cell? ⟨bx, 3, none⟩ = some (.int .i64 wn) ∧ w'.cell? ⟨r, 0, none⟩ = some (.slice A k c)) (first | exact HK.out _ (Below.refl _ _) | exact HK.out _ (Below.refl _ _).drew | exact HK.out _ C1.out | exact HK.out _ C1.out.drew | exact HK.out _ C2.out | exact HK.out _ C2.out.drew | exact HK.out _ C3.out | exact HK.out _ C3.out.drew | exact HK.out _ C4.out | exact HK.out _ C4.out.drew | exact HK.out _ C5.out | exact HK.out _ C5.out.drew | exact HK.out _ C6.out | exact HK.out _ C6.out.drew | exact HK.out _ C7.out | exact HK.out _ C7.out.drew | exact HK.out _ C8.out | exact HK.out _ C8.out.drew | exact HK.out _ C9.out | exact HK.out _ C9.out.drew)
        (first
          | (go_at_call 18; refine (HHAS.out _ (by first | exact Below.refl _ _ | exact (Below.refl _ _).drew)).mono ?_; rintro e u1 ⟨rfl, b⟩; have C1 := Lib.hid b; clear b)
          | (go_at_call 14; refine (HLEN.out _ (by first | exact Below.refl _ _ | exact (Below.refl _ _).drew | exact C1.out | exact C1.out.drew)).mono ?_; rintro e u2 ⟨rfl, b⟩; have C2 := Lib.hid b; clear b)
          | (go_at_call 13; refine (HWA.out _ (by first | exact Below.refl _ _ | exact (Below.refl _ _).drew | exact C1.out | exact C1.out.drew | exact C2.out | exact C2.out.drew)).mono ?_; rintro e u3 ⟨rfl, b⟩; have C3 := Lib.hid b; clear b)
          | (go_at_call 38; refine (HRW.out _ (by first | exact Below.refl _ _ | exact (Below.refl _ _).drew | exact C1.out | exact C1.out.drew | exact C2.out | exact C2.out.drew | exact C3.out | exact C3.out.drew)).mono ?_; rintro e u4 ⟨rfl, b⟩; have C4 := Lib.hid b; clear b)
          | (have _z := X7; clear _z; go_at_call 16; refine (HSB.out _ (by first | exact Below.refl _ _ | exact (Below.refl _ _).drew | exact C1.out | exact C1.out.drew | exact C2.out | exact C2.out.drew | exact C3.out | exact C3.out.drew | exact C4.out | exact C4.out.drew | exact C5.out | exact C5.out.drew | exact C6.out | exact C6.out.drew | exact C7.out | exact C7.out.drew) _ (by first | exact X7.out | exact row_same X7.out (fun _ _ => rfl))).mono ?_; rintro e u8 ⟨rfl, b⟩; have C8 := Lib.hid b; clear b)
          | (have _z := C6; clear _z; go_at_call 40; refine (HRS.out _ (by first | exact Below.refl _ _ | exact (Below.refl _ _).drew | exact C1.out | exact C1.out.drew | exact C2.out | exact C2.out.drew | exact C3.out | exact C3.out.drew | exact C4.out | exact C4.out.drew | exact C5.out | exact C5.out.drew | exact C6.out | exact C6.out.drew)).mono ?_; rintro e u7 ⟨⟨y7, rfl, rx⟩, b⟩; have X7 := Lib.hid rx; clear rx; have C7 := Lib.hid b; clear b)
          | (go_at_call 40; refine (HRF.out _ (by first | exact Below.refl _ _ | exact (Below.refl _ _).drew | exact C1.out | exact C1.out.drew | exact C2.out | exact C2.out.drew | exact C3.out | exact C3.out.drew | exact C4.out | exact C4.out.drew)).mono ?_; rintro e u5 ⟨⟨y5, rfl, rx⟩, b⟩; have X5 := Lib.hid rx; clear rx; have C5 := Lib.hid b; clear b)
          | (go_at_call 16; refine (HSA.out _ (by first | exact Below.refl _ _ | exact (Below.refl _ _).drew | exact C1.out | exact C1.out.drew | exact C2.out | exact C2.out.drew | exact C3.out | exact C3.out.drew | exact C4.out | exact C4.out.drew | exact C5.out | exact C5.out.drew) _ (by first | exact X5.out | exact row_same X5.out (fun _ _ => rfl))).mono ?_; rintro e u6 ⟨rfl, b⟩; have C6 := Lib.hid b; clear b)
          | (go_at_call 37; refine (HRC.out _ (by first | exact Below.refl _ _ | exact (Below.refl _ _).drew | exact C1.out | exact C1.out.drew | exact C2.out | exact C2.out.drew | exact C3.out | exact C3.out.drew | exact C4.out | exact C4.out.drew | exact C5.out | exact C5.out.drew | exact C6.out | exact C6.out.drew | exact C7.out | exact C7.out.drew | exact C8.out | exact C8.out.drew)).mono ?_; rintro e u9 ⟨rfl, b⟩; have C9 := Lib.hid b; clear b))
      all_goals
        go_wp2_with fail
        go_ret
        exact ⟨rfl, by rw [HBX.out]; exact B4.out.trans (C9.out.mono HSZ2.out)⟩
end Go.Proofs.Ytllolfbjmpaamaa
