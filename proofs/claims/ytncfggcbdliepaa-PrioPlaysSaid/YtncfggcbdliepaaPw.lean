/- PrioPlays. -/
import Derived.Test.YtncfggcbdliepaaMo
import Derived.Test.YtncfggcbdliepaaRd
namespace Go.Proofs.Ytncfggcbdliepaa
open Go.RowKit
set_option linter.unusedSimpArgs false
set_option linter.unusedVariables false
set_option maxRecDepth 100000

/-- The queues and the reference's, between two calls. -/
structure Two (w W : World) (g : Nat) (S : Nat → Prop) (r : Nat) (v : Value) (N m : Nat) (L : List It) : Prop where
  p : Run w W g S N m L
  q : Rf W r v N m L
  d : ∀ b, RFoot r v b → ¬ S b
  s : ∀ b, RFoot r v b → w.heap.size ≤ b
theorem Two.below {w W W' : World} {g : Nat} {S : Nat → Prop} {r : Nat} {v : Value} {N m : Nat} {L : List It} (h : Two w W g S r v N m L) (hb : Below W.heap.size W W') : Two w W' g S r v N m L := ⟨h.p.below hb, h.q.below hb, h.d, h.s⟩
theorem Two.mono {w W : World} {g : Nat} {S : Nat → Prop} {r : Nat} {v : Value} {N N' m : Nat} {L : List It} (h : Two w W g S r v N m L) (hN : N ≤ N') : Two w W g S r v N' m L := ⟨⟨h.p.q.mono hN, h.p.b, h.p.s⟩, h.q.mono hN, h.d, h.s⟩
theorem Two.mid {w W W1 : World} {g : Nat} {S S1 : Nat → Prop} {r : Nat} {v : Value} {N N1 m : Nat} {L L1 : List It} (h : Two w W g S r v N m L) (q1 : Qw W1 g S1 N1 m L1) (st1 : Stp S W S1 W1) : Run w W1 g S1 N1 m L1 ∧ Rf W1 r v N m L ∧ ∀ b, RFoot r v b → ¬ S1 b :=
  ⟨h.p.step q1 st1, h.q.keep (fun b hb => st1.f.block b (h.q.foot_lt hb) (h.d b hb)), fun b hb hs => by
    rcases st1.s b hs with h1 | h1
    · exact h.d b hb h1
    · have := h.q.foot_lt hb; omega⟩
theorem Two.step {w W W1 W2 : World} {g : Nat} {S S1 : Nat → Prop} {r : Nat} {v v2 : Value} {N N1 m : Nat} {L L1 : List It} (h : Two w W g S r v N m L) (q1 : Qw W1 g S1 N1 m L1) (st1 : Stp S W S1 W1) (q2 : Rf W2 r v2 N1 m L1) (st2 : Stp (RFoot r v) W1 (RFoot r v2) W2) : Two w W2 g S1 r v2 N1 m L1 := by
  obtain ⟨h1, h2, h3⟩ := h.mid q1 st1
  obtain ⟨h4, h5⟩ := st2.below h.s h1.b.size
  refine ⟨⟨q1.keep (fun b hb => st2.f.block b (q1.lt hb) (fun e => h3 b e hb)), h1.b.trans h4, h1.s⟩, q2, fun b hb hs => ?_, h5⟩
  rcases st2.s b hb with h6 | h6
  · exact h3 b h6 hs
  · have := q1.lt hs; omega

theorem plays_out (m : Int) (a : Option Addr) (n cap : Nat) (w : World) (hn : n ≤ maxLen) (h : m < 1 ∨ 8 < m ∨ 150 < n) :
    Calls Try.prog 6 #[.int .i64 m, .slice a n cap] w fun e w' => e = .returned (.bool true) ∧ Below w.heap.size w w' := by
  unfold maxLen at hn
  by_cases h1 : (150 : Int) < (n : Int)
  · clear h
    go_enter Try.func6, Try.ntmps6
    go_wp2_with fail
    go_ret
    exact ⟨rfl, Below.refl _ _⟩
  · have h2 : m < 1 ∨ 8 < m := by omega
    have HN := Lib.hid (New_bad m w h2)
    have HR := Lib.hid (rnew_bad m w h2)
    clear h h2
    go_enter Try.func6, Try.ntmps6
    go_wp2_with fail
    refine HN.out.mono ?_
    rintro e w1 ⟨rfl, rfl⟩
    go_wp2_with fail
    refine HR.out.mono ?_
    rintro e w2 ⟨rfl, b2⟩
    have B2 := Lib.hid b2; have hz := b2.size
    clear b2
    go_wp2_with fail
    go_ret
    exact ⟨rfl, B2.out.alloc hz _⟩

set_option maxHeartbeats 16000000 in
theorem plays_in (m : Nat) (a : Option Addr) (cap : Nat) (os : List OpV) (w : World) (h1 : 1 ≤ m) (h8 : m ≤ 8) (hl : os.length ≤ 150) (ho : OpsAt w a os) (hk : ∀ o ∈ os, o.ok) :
    Calls Try.prog 6 #[.int .i64 m, .slice a os.length cap] w fun e w' => e = .returned (.bool true) ∧ Below w.heap.size w w' := by
  have HO := Lib.hid ho; have HK := Lib.hid hk
  clear ho hk
  generalize hlen : os.length = len at *
  have HL := Lib.hid hlen; clear hlen
  go_enter Try.func6, Try.ntmps6
  go_wp2_with fail
  refine (New_ok m w h1 h8).mono ?_
  rintro e w1 ⟨⟨g, S, rfl, q1, s1⟩, b1⟩
  have R1 : Hid (Run w w1 g S 0 m []) := Lib.hid ⟨q1, b1, s1⟩
  clear q1 s1 b1
  go_wp2_with fail
  refine (rnew_ok m w1 h1 h8).mono ?_
  rintro e w2 ⟨rfl, b2⟩
  have hz2 := b2.size
  have R3 := Lib.hid (R1.out.below (b2.alloc hz2 (.cells #[.int .i64 m, .slice none 0 0] 50)))
  have T3 : Hid (Two w (w2.alloc (.cells #[.int .i64 m, .slice none 0 0] 50)) g S w2.heap.size (.slice none 0 0) 0 m []) := Lib.hid (by
    refine ⟨R3.out, ⟨new_block _ _, World.ownsRow_nil _ _ _ _, (fun b e => by cases e), Ok.nil m, Nat.le_refl _, ⟨h1, h8⟩⟩, fun b hb hs => ?_, fun b hb => ?_⟩
    · rcases hb with rfl | hb
      · have := R1.out.q.lt hs; omega
      · cases hb
    · rcases hb with rfl | hb
      · have := R1.out.b.size; omega
      · cases hb)
  clear b2 R3 R1
  go_wp2_with fail
  generalize w2.alloc (.cells #[.int .i64 m, .slice none 0 0] 50) = w3 at *
  generalize w2.heap.size = r at *
  go_loopw [9] (fun i wr => ∃ (k : Nat) (S : Nat → Prop) (v : Value) (L : List It), k ≤ len ∧ i = .int .i64 k ∧ Hid (Two w wr g S r v k m L)) (fun i _ => len - (intOf i).toNat)
  case atStart => exact ⟨0, S, _, [], Nat.zero_le _, rfl, T3⟩
  case round =>
    clear T3
    obtain ⟨k, S, v, L, hk, rfl, HT⟩ := hrel
    by_cases hlt : k < len
    · obtain ⟨o, b, off, hko, hok, rfl, hb, hc⟩ := HO.out.one HK.out k (by rw [HL.out]; exact hlt)
      obtain ⟨c0, c1, c2, c3, c4⟩ := hc wr HT.out.p.b
      have BX : Hid (Bx (wr.alloc (.cells #[.int .i64 o.kd, .int .i64 o.pr, .int .i64 o.id, .int .i64 o.fl, .int .i64 o.ct] 30)) wr.heap.size o) := Lib.hid (new_block _ _)
      have TW := Lib.hid (HT.out.below ((Below.refl _ wr).alloc (Nat.le_refl _) (.cells #[.int .i64 o.kd, .int .i64 o.pr, .int .i64 o.id, .int .i64 o.fl, .int .i64 o.ct] 30)))
      have hxs : Hid (¬ S wr.heap.size) := Lib.hid (fun h => by have := HT.out.p.q.lt h; omega)
      have hxr : Hid (¬ RFoot r v wr.heap.size) := Lib.hid (fun h => by have := HT.out.q.foot_lt h; omega)
      have HOK := Lib.hid hok
      have hkl : (k : Int) < (len : Int) := by omega
      clear hko hok hc HT
      obtain ⟨kd, pr, id, fl, ct⟩ := o
      simp only at c0 c1 c2 c3 c4 TW BX
      go_upto_block 2 with (fail)
      generalize wr.alloc (.cells #[.int .i64 kd, .int .i64 pr, .int .i64 id, .int .i64 fl, .int .i64 ct] 30) = W0 at *
      generalize hbx : wr.heap.size = bx at *
      have HBX := Lib.hid hbx
      clear hbx
      go_cut [11] (fun s11 wx => s11 = .bool true ∧ ∃ (W9 : World) (S' : Nat → Prop) (v' : Value) (L' : List It), W9 = wx ∧ Hid (Two w W9 g S' r v' (k + 1) m L') ∧ Hid (Bx W9 bx ⟨kd, pr, id, fl, ct⟩))
      case first =>
        obtain ⟨x0, x1, x2, x3, x4⟩ := BX.out.cells
        simp only at x0 x1 x2 x3 x4
        clear c0 c1 c2 c3 c4
        by_cases h0 : kd = 0
        · subst h0
          have HPUT := Lib.hid (fun (W : World) (hb : Below W0.heap.size W0 W) => Put_any W g S k m L pr id fl ct (TW.out.p.q.below hb) (by omega) (bd_i64 HOK.out.i).2 (bd_i64 HOK.out.f).2)
          go_wp2_with fail
          go_region_held3 (fun w' => w'.cell? ⟨bx, 1, none⟩ = some (.int .i64 pr) ∧ w'.cell? ⟨bx, 2, none⟩ = some (.int .i64 id) ∧ w'.cell? ⟨bx, 3, none⟩ = some (.int .i64 fl) ∧ w'.cell? ⟨bx, 4, none⟩ = some (.int .i64 ct)) (first | exact ⟨x1, x2, x3, x4⟩ | exact ⟨y1, y2, y3, y4⟩ | exact ⟨t1, t2, t3, t4⟩)
            (first
              | (go_at_call 10; refine (HPUT.out _ (by first | exact Below.refl _ _ | exact (Below.refl _ _).drew)).mono ?_; rintro e w4 ⟨rfl, S1, q1, st1⟩; have Q1 := Lib.hid q1; have ST1 : Hid (Stp S W0 S1 w4) := Lib.hid (by first | exact st1 | exact ⟨st1.f.undrew, st1.s⟩); have MID := Lib.hid (TW.out.mid Q1.out ST1.out); have X1 := Lib.hid (BX.out.stp ST1.out hxs.out); obtain ⟨-, y1, y2, y3, y4⟩ := X1.out.cells; simp only at y1 y2 y3 y4; clear q1 st1)
              | (have _z := MID; clear _z; go_at_call 19; refine (rput_any _ r v k m L pr id fl ct (by first | exact MID.out.2.1 | exact MID.out.2.1.below (Below.refl _ _).drew) (by omega) (bd_i64 HOK.out.i).2 (bd_i64 HOK.out.f).2).mono ?_; rintro e w5 ⟨rfl, v2, q2, st2⟩; have ST2 : Hid (Stp (RFoot r v) w4 (RFoot r v2) w5) := Lib.hid (by first | exact st2 | exact ⟨st2.f.undrew, st2.s⟩); have T2 := Lib.hid (TW.out.step Q1.out ST1.out q2 ST2.out); have X2 := Lib.hid (X1.out.stp ST2.out hxr.out); obtain ⟨-, t1, t2, t3, t4⟩ := X2.out.cells; simp only at t1 t2 t3 t4; clear q2 st2))
          all_goals
            go_wp2_with fail
            go_meet
            exact ⟨by simp, _, _, _, _, rfl, T2, X2⟩
        · have e0 : (kd == 0) = false := by simpa using h0
          by_cases h1' : kd = 1
          · subst h1'
            have HCUT := Lib.hid (fun (W : World) (hb : Below W0.heap.size W0 W) => Cut_any W g S k m L id (TW.out.p.q.below hb) (by omega) HOK.out.i)
            go_wp2_with fail
            go_region_held3 (fun w' => w'.cell? ⟨bx, 2, none⟩ = some (.int .i64 id)) (first | exact x2 | exact y2 | exact t2)
              (first
                | (go_at_call 16; refine (HCUT.out _ (by first | exact Below.refl _ _ | exact (Below.refl _ _).drew)).mono ?_; rintro e w4 ⟨rfl, S1, q1, st1⟩; have Q1 := Lib.hid q1; have ST1 : Hid (Stp S W0 S1 w4) := Lib.hid (by first | exact st1 | exact ⟨st1.f.undrew, st1.s⟩); have MID := Lib.hid (TW.out.mid Q1.out ST1.out); have X1 := Lib.hid (BX.out.stp ST1.out hxs.out); obtain ⟨-, -, y2, -⟩ := X1.out.cells; simp only at y2; clear q1 st1)
                | (have _z := MID; clear _z; go_at_call 20; refine (rcut_any _ r v k m L id (by first | exact MID.out.2.1 | exact MID.out.2.1.below (Below.refl _ _).drew) (by omega)).mono ?_; rintro e w5 ⟨rfl, v2, q2, st2⟩; have ST2 : Hid (Stp (RFoot r v) w4 (RFoot r v2) w5) := Lib.hid (by first | exact st2 | exact ⟨st2.f.undrew, st2.s⟩); have T2 := Lib.hid (TW.out.step Q1.out ST1.out q2 ST2.out); have X2 := Lib.hid (X1.out.stp ST2.out hxr.out); obtain ⟨-, -, t2, -⟩ := X2.out.cells; simp only at t2; clear q2 st2))
            all_goals
              go_wp2_with fail
              go_meet
              exact ⟨by simp, _, _, _, _, rfl, Lib.hid (T2.out.mono (Nat.le_succ _)), X2⟩
          · have e1 : (kd == 1) = false := by simpa using h1'
            by_cases h2 : kd = 2
            · subst h2
              have HMOV := Lib.hid (fun (W : World) (hb : Below W0.heap.size W0 W) => Move_any W g S k m L id pr (TW.out.p.q.below hb) (by omega) HOK.out.i)
              go_wp2_with fail
              go_region_held3 (fun w' => w'.cell? ⟨bx, 1, none⟩ = some (.int .i64 pr) ∧ w'.cell? ⟨bx, 2, none⟩ = some (.int .i64 id)) (first | exact ⟨x1, x2⟩ | exact ⟨y1, y2⟩ | exact ⟨t1, t2⟩)
                (first
                  | (go_at_call 17; refine (HMOV.out _ (by first | exact Below.refl _ _ | exact (Below.refl _ _).drew)).mono ?_; rintro e w4 ⟨rfl, S1, q1, st1⟩; have Q1 := Lib.hid q1; have ST1 : Hid (Stp S W0 S1 w4) := Lib.hid (by first | exact st1 | exact ⟨st1.f.undrew, st1.s⟩); have MID := Lib.hid (TW.out.mid Q1.out ST1.out); have X1 := Lib.hid (BX.out.stp ST1.out hxs.out); obtain ⟨-, y1, y2, -⟩ := X1.out.cells; simp only at y1 y2; clear q1 st1)
                  | (have _z := MID; clear _z; go_at_call 21; refine (rmove_any _ r v k m L id pr (by first | exact MID.out.2.1 | exact MID.out.2.1.below (Below.refl _ _).drew) (by omega)).mono ?_; rintro e w5 ⟨rfl, v2, q2, st2⟩; have ST2 : Hid (Stp (RFoot r v) w4 (RFoot r v2) w5) := Lib.hid (by first | exact st2 | exact ⟨st2.f.undrew, st2.s⟩); have T2 := Lib.hid (TW.out.step Q1.out ST1.out q2 ST2.out); have X2 := Lib.hid (X1.out.stp ST2.out hxr.out); obtain ⟨-, t1, t2, -⟩ := X2.out.cells; simp only at t1 t2; clear q2 st2))
              all_goals
                go_wp2_with fail
                go_meet
                exact ⟨by simp, _, _, _, _, rfl, T2, X2⟩
            · have e2 : (kd == 2) = false := by simpa using h2
              by_cases h3 : kd = 3
              · subst h3
                have HBAT := Lib.hid (Batch_any W0 g S k m L TW.out.p.q (by omega))
                have hrl : (row L (least L)).length ≤ 20000 := by have := row_len L (least L); have := TW.out.q.ln; omega
                go_wp2_with fail
                refine HBAT.out.mono ?_
                rintro e W2 ⟨u, S1, rfl, ru, q1, st1, hu⟩
                have Q1 := Lib.hid q1; have ST1 := Lib.hid st1; have RU := Lib.hid ru; have HU := Lib.hid hu
                have MID := Lib.hid (TW.out.mid Q1.out ST1.out)
                have X1 := Lib.hid (BX.out.stp ST1.out hxs.out)
                have HRB := Lib.hid (rbatch_any W2 r v k m L MID.out.2.1 (by omega))
                obtain ⟨Au, cu, rfl, -⟩ := row_form ru
                clear q1 st1 ru hu HBAT
                go_wp2_with fail
                refine HRB.out.mono ?_
                rintro e W3 ⟨u', v2, rfl, ru', q2, st2⟩
                have ST2 := Lib.hid st2
                have T2 := Lib.hid (TW.out.step Q1.out ST1.out q2 ST2.out)
                have X2 := Lib.hid (X1.out.stp ST2.out hxr.out)
                have SA := Lib.hid (same_any W3 _ u' (row L (least L)) hrl (row_same (RU.out) (fun b e => ST2.out.f.block b (RU.out.lt b e).2 (fun h => TW.out.d b h (HU.out b e).1))) ru')
                obtain ⟨Au', cu', rfl, -⟩ := row_form ru'
                clear q2 st2 ru' HRB
                go_wp2_with fail
                refine SA.out.mono ?_
                rintro e W4 ⟨rfl, b4⟩
                have T4 := Lib.hid ((T2.out.below b4).mono (Nat.le_succ _)); have X4 := Lib.hid (X2.out.below b4)
                clear b4 SA
                go_wp2_with fail
                go_meet
                exact ⟨rfl, _, _, _, _, rfl, T4, X4⟩
              · have e3 : (kd == 3) = false := by simpa using h3
                go_wp2_with fail
                go_meet
                exact ⟨rfl, _, _, _, _, rfl, Lib.hid (TW.out.mono (Nat.le_succ _)), BX⟩
      case rest =>
        obtain ⟨rfl, wx, S', v', L', rfl, HT', HX'⟩ := hcut
        clear TW BX hxs hxr c0 c1 c2 c3 c4 hb
        have HHA := Lib.hid (Has_any wx g S' (k + 1) m L' id HT'.out.p.q HOK.out.i)
        have HRH := Lib.hid (fun (W : World) (hb : Below wx.heap.size wx W) => rhas_any W r v' (k + 1) m L' id (HT'.out.q.below hb) (by omega))
        have hx2 := HX'.out.cells.2.2.1
        simp only at hx2
        generalize itOf L' id = it at *
        obtain ⟨ti, tf, tc, tp⟩ := it
        simp only at HHA HRH
        generalize (look L' id).isSome = hs at *
        go_wp2_with fail
        refine HHA.out.mono ?_
        rintro e w4 ⟨rfl, b4⟩
        have hz4 := b4.size
        have B5 : Hid (Below wx.heap.size wx (w4.alloc (.cells #[.int .i64 ti, .int .i64 tf, .int .i64 tc] 35))) := Lib.hid (b4.alloc hz4 _)
        have K5 : Hid ((w4.alloc (.cells #[.int .i64 ti, .int .i64 tf, .int .i64 tc] 35)).heap[w4.heap.size]? = some (.cells #[.int .i64 ti, .int .i64 tf, .int .i64 tc] 35 (0, 0))) := Lib.hid (new_block _ _)
        have hx3 := (HX'.out.below B5.out).cells.2.2.1
        simp only at hx3
        clear b4 hx2 HHA
        go_upto_region 23 with (fail)
        generalize w4.alloc (.cells #[.int .i64 ti, .int .i64 tf, .int .i64 tc] 35) = w5 at *
        generalize w4.heap.size = x5 at *
        go_wp2_with fail
        refine (HRH.out _ B5.out).mono ?_
        rintro e w6 ⟨rfl, b6⟩
        have hz6 := b6.size
        have B7 : Hid (Below w5.heap.size w5 (w6.alloc (.cells #[.int .i64 ti, .int .i64 tf, .int .i64 tc, .int .i64 tp] 58))) := Lib.hid (b6.alloc hz6 _)
        have K7 : Hid ((w6.alloc (.cells #[.int .i64 ti, .int .i64 tf, .int .i64 tc, .int .i64 tp] 58)).heap[w6.heap.size]? = some (.cells #[.int .i64 ti, .int .i64 tf, .int .i64 tc, .int .i64 tp] 58 (0, 0))) := Lib.hid (new_block _ _)
        clear b6 HRH hx3
        go_upto_region 24 with (fail)
        generalize w6.alloc (.cells #[.int .i64 ti, .int .i64 tf, .int .i64 tc, .int .i64 tp] 58) = w7 at *
        generalize w6.heap.size = x7 at *
        have T7 := Lib.hid ((HT'.out.below B5.out).below B7.out)
        have X7 := Lib.hid ((HX'.out.below B5.out).below B7.out)
        have K5' := Lib.hid ((B7.out.block _ (lt_of_block K5.out)).trans K5.out)
        clear HT' HX' B5 B7 K5 hz4 hz6
        have hm7 := h8
        obtain ⟨A7, c7, hv7, -⟩ := row4_cells T7.out.q.o
        have HQC : Hid (∀ W : World, Below w7.heap.size w7 W → W.cell? ⟨r, 0, none⟩ = some (.int .i64 m) ∧ W.cell? ⟨r, 1, none⟩ = some (.slice A7 L'.length c7)) := Lib.hid (fun W hb => by
          obtain ⟨y0, y1, -⟩ := (T7.out.q.below hb).cells
          rw [← hv7]
          exact ⟨y0, y1⟩)
        have HLN := Lib.hid (fun (W : World) (hb : Below w7.heap.size w7 W) => Len_any W g S' (k + 1) m L' (T7.out.p.q.below hb) (by omega))
        have HLE := Lib.hid (fun (W : World) (hb : Below w7.heap.size w7 W) => Least_any W g S' (k + 1) m L' (T7.out.p.q.below hb) (by omega))
        have HRL := Lib.hid (fun (W : World) (hb : Below w7.heap.size w7 W) => (rleast_any W r v' (k + 1) m L' (T7.out.q.below hb) (by omega)).mono (R' := fun e w' => e = .returned (.int .i64 (least L')) ∧ Below W.heap.size W w') (by rintro e w' ⟨rfl, rfl⟩; exact ⟨rfl, Below.refl _ _⟩))
        have HMA := Lib.hid (fun (W : World) (hb : Below w7.heap.size w7 W) => (Many_any W g S' (k + 1) m L' (T7.out.p.q.below hb)).mono (R' := fun e w' => e = .returned (.int .i64 m) ∧ Below W.heap.size W w') (by rintro e w' ⟨rfl, rfl⟩; exact ⟨rfl, Below.refl _ _⟩))
        have hk5 : ∀ n : Aft w7, n.val.cell? ⟨x5, 0, none⟩ = some (.int .i64 ti) ∧ n.val.cell? ⟨x5, 1, none⟩ = some (.int .i64 tf) ∧ n.val.cell? ⟨x5, 2, none⟩ = some (.int .i64 tc) := fun n => by
          have hc := cell_of ((n.property.block _ (lt_of_block K5'.out)).trans K5'.out)
          have c0 := (hc 0).1; have c1 := (hc 1).1; have c2 := (hc 2).1
          simp at c0 c1 c2
          exact ⟨c0, c1, c2⟩
        have hk7 : ∀ n : Aft w7, n.val.cell? ⟨x7, 0, none⟩ = some (.int .i64 ti) ∧ n.val.cell? ⟨x7, 1, none⟩ = some (.int .i64 tf) ∧ n.val.cell? ⟨x7, 2, none⟩ = some (.int .i64 tc) ∧ n.val.cell? ⟨x7, 3, none⟩ = some (.int .i64 tp) := fun n => by
          have hc := cell_of ((n.property.block _ (lt_of_block K7.out)).trans K7.out)
          have c0 := (hc 0).1; have c1 := (hc 1).1; have c2 := (hc 2).1; have c3 := (hc 3).1
          simp at c0 c1 c2 c3
          exact ⟨c0, c1, c2, c3⟩
        generalize least L' = lv at *
        generalize L'.length = ll at *
        have x0 := fun n : Aft w7 => (hk5 n).1
        have x1 := fun n : Aft w7 => (hk5 n).2.1
        have x2 := fun n : Aft w7 => (hk5 n).2.2
        have y0 := fun n : Aft w7 => (hk7 n).1
        have y1 := fun n : Aft w7 => (hk7 n).2.1
        have y2 := fun n : Aft w7 => (hk7 n).2.2.1
        have y3 := fun n : Aft w7 => (hk7 n).2.2.2
        have z0 := fun n : Aft w7 => (HQC.out n.val n.property).1
        have z1 := fun n : Aft w7 => (HQC.out n.val n.property).2
        have hs0 : (hs != hs) = false := by simp
        clear hk5 hk7 K5' K7 hv7
        refine wp_region_aft (by kernel_rfl) (by kernel_rfl) (Below.refl _ w7) ?_
        repeat (any_goals (first | go_big_quiet_step ((first | (go_at_call 11; exact quiet_call _ (HLN.out _ (Aft.property _))) | (go_at_call 12; exact quiet_call _ (HLE.out _ (Aft.property _))) | (go_at_call 25; exact quiet_call _ (HRL.out _ (Aft.property _))) | (go_at_call 26; exact quiet_call _ (HMA.out _ (Aft.property _))))) | quiet_step ((first | (go_at_call 11; exact quiet_call _ (HLN.out _ (Aft.property _))) | (go_at_call 12; exact quiet_call _ (HLE.out _ (Aft.property _))) | (go_at_call 25; exact quiet_call _ (HRL.out _ (Aft.property _))) | (go_at_call 26; exact quiet_call _ (HMA.out _ (Aft.property _)))))))
        refine wpQuiet_nil ?_
        intro _ hw'
        obtain ⟨⟨w8, b8⟩, hw''⟩ := hw'
        subst hw''
        have B8 := Lib.hid b8
        clear b8 x0 x1 x2 y0 y1 y2 y3 z0 z1 HLN HLE HRL HMA
        have T8 := Lib.hid (T7.out.below B8.out)
        go_wp2_with fail
        go_loopw [18] (fun i wz => ∃ n : Int, -1 ≤ n ∧ n ≤ m + 1 ∧ i = .int .i64 n ∧ Hid (Two w wz g S' r v' (k + 1) m L')) (fun i _ => ((m : Int) + 1 - intOf i).toNat)
        case atStart => exact ⟨-1, by omega, by omega, rfl, T8⟩
        case round =>
          clear T8 T7 X7 B8 HQC hs0
          obtain ⟨wz, rfl⟩ : ∃ wz : World, wz = wr := ⟨_, rfl⟩
          obtain ⟨n, hn0, hn1, rfl, HT⟩ := hrel
          obtain ⟨q0, -, -⟩ := HT.out.q.cells
          by_cases hnm : n ≤ m
          · have HLI := Lib.hid (List_any wz g S' (k + 1) m L' n HT.out.p.q (by omega))
            have hrl : (row L' n).length ≤ 20000 := by have := row_len L' n; have := HT.out.q.ln; omega
            go_wp2_with fail
            refine HLI.out.mono ?_
            rintro e w9 ⟨⟨u, rfl, ru⟩, b9⟩
            have T9 := Lib.hid (HT.out.below b9)
            have RU := Lib.hid (row_base ru)
            obtain ⟨Au, cu, rfl, -⟩ := row_form ru
            clear b9 ru HLI HT
            have HRI := Lib.hid (rlist_any w9 r v' (k + 1) m L' n T9.out.q (by omega))
            go_wp2_with fail
            refine HRI.out.mono ?_
            rintro e w10 ⟨⟨u', rfl, ru'⟩, b10⟩
            have T10 := Lib.hid (T9.out.below b10)
            have SA := Lib.hid (same_any w10 _ u' (row L' n) hrl (row_same RU.out (fun b e => b10.block b (RU.out.lt b e).2)) (row_base ru'))
            obtain ⟨Au', cu', rfl, -⟩ := row_form ru'
            clear b10 ru' HRI RU T9
            go_wp2_with fail
            refine SA.out.mono ?_
            rintro e w11 ⟨rfl, b11⟩
            have T11 := Lib.hid (T10.out.below b11)
            clear b11 SA T10
            go_wp2_with fail
            go_roundw
            case rel => exact ⟨n + 1, by omega, by omega, by go_num, T11⟩
            case measure => simp [intOf]; omega
          · go_wp2_with fail
            go_roundw
            case rel => exact ⟨k + 1, S', v', L', by omega, by go_num, HT⟩
            case measure => simp [intOf]; omega
    · obtain rfl : k = len := by omega
      go_wp2_with fail
      go_ret
      exact ⟨rfl, HT.out.p.b⟩

open Go.ChangeShapes Go.WideShapes Go.ChangeAt in
theorem plays_top {H : Type} {enc : TypeId × Value → H} {base : Nat} {held : Bool} (c : Int) (v : Value) (d : DataW H) (p : List MemPlace) (w : World) (w0 : (Lit.int .i64 c).wf = true) {r : Reach} {b0 : Nat} (hv : Value.okWide Try.prog w r b0 22 v) (h : DataW.Trod enc Try.prog w base (fun _ => true) held 22 v d p) :
    Calls Try.prog 6 #[.int .i64 c, v] w fun e w' => e = .returned (.bool true) ∧ Below w.heap.size w w' := by
  obtain ⟨a, cap, os, rfl, hm, ho, hk⟩ := open_ops hv h
  by_cases hin : (1 ≤ c ∧ c ≤ 8) ∧ os.length ≤ 150
  · obtain ⟨C, rfl⟩ := Int.eq_ofNat_of_zero_le (show 0 ≤ c by omega)
    exact plays_in C a cap os w (by omega) (by omega) hin.2 ho hk
  · exact plays_out c a os.length cap w hm (by omega)
end Go.Proofs.Ytncfggcbdliepaa
