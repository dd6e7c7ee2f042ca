/- EvmapPlays. -/
import Derived.Test.YtllolfbjmpaamaaTo
namespace Go.Proofs.Ytllolfbjmpaamaa
open Go.RowKit
set_option linter.unusedSimpArgs false
set_option linter.unusedVariables false
set_option maxRecDepth 100000

/-- The map and the reference's, between two calls. -/
structure Two (w W : World) (g : Nat) (S : Nat → Prop) (r : Nat) (v : Value) (N : Nat) (L : List It) : Prop where
  p : Run w W g S N L
  q : Rf W r v N L
  d : ∀ b, RFoot r v b → ¬ S b
  s : ∀ b, RFoot r v b → w.heap.size ≤ b
theorem Two.below {w W W' : World} {g : Nat} {S : Nat → Prop} {r : Nat} {v : Value} {N : Nat} {L : List It} (h : Two w W g S r v N L) (hb : Below W.heap.size W W') : Two w W' g S r v N L := ⟨h.p.below hb, h.q.below hb, h.d, h.s⟩
theorem Two.mono {w W : World} {g : Nat} {S : Nat → Prop} {r : Nat} {v : Value} {N N' : Nat} {L : List It} (h : Two w W g S r v N L) (hN : N ≤ N') : Two w W g S r v N' L := ⟨⟨h.p.q.mono hN, h.p.b, h.p.s⟩, h.q.mono hN, h.d, h.s⟩
theorem Two.mid {w W W1 : World} {g : Nat} {S S1 : Nat → Prop} {r : Nat} {v : Value} {N N1 : Nat} {L L1 : List It} (h : Two w W g S r v N L) (q1 : Qw W1 g S1 N1 L1) (st1 : Stp S W S1 W1) : Run w W1 g S1 N1 L1 ∧ Rf W1 r v N L ∧ ∀ b, RFoot r v b → ¬ S1 b :=
  ⟨h.p.step q1 st1, h.q.keep (fun b hb => st1.f.block b (h.q.foot_lt hb) (h.d b hb)), fun b hb hs => by
    rcases st1.s b hs with h1 | h1
    · exact h.d b hb h1
    · have := h.q.foot_lt hb; omega⟩
theorem Two.step {w W W1 W2 : World} {g : Nat} {S S1 : Nat → Prop} {r : Nat} {v v2 : Value} {N N1 : Nat} {L L1 : List It} (h : Two w W g S r v N L) (q1 : Qw W1 g S1 N1 L1) (st1 : Stp S W S1 W1) (q2 : Rf W2 r v2 N1 L1) (st2 : Stp (RFoot r v) W1 (RFoot r v2) W2) : Two w W2 g S1 r v2 N1 L1 := by
  obtain ⟨h1, h2, h3⟩ := h.mid q1 st1
  obtain ⟨h4, h5⟩ := st2.below h.s h1.b.size
  refine ⟨⟨q1.keep (fun b hb => st2.f.block b (q1.lt hb) (fun e => h3 b e hb)), h1.b.trans h4, h1.s⟩, q2, fun b hb hs => ?_, h5⟩
  rcases st2.s b hb with h6 | h6
  · exact h3 b h6 hs
  · have := q1.lt hs; omega

theorem plays_out (a : Option Addr) (n cap : Nat) (w : World) (hn : n ≤ maxLen) (h : 200 < n) :
    Calls Try.prog 5 #[.slice a n cap] w fun e w' => e = .returned (.bool true) ∧ Below w.heap.size w w' := by
  unfold maxLen at hn
  have h2 : (200 : Int) < (n : Int) := by omega
  go_enter Try.func5, Try.ntmps5
  go_wp2_with fail
  go_ret
  exact ⟨rfl, Below.refl _ _⟩

set_option maxHeartbeats 16000000 in
theorem plays_in (a : Option Addr) (cap : Nat) (os : List OpV) (w : World) (hl : os.length ≤ 200) (ho : OpsAt w a os) (hk : ∀ o ∈ os, o.ok) :
    Calls Try.prog 5 #[.slice a os.length cap] w fun e w' => e = .returned (.bool true) ∧ Below w.heap.size w w' := by
  have HO := Lib.hid ho; have HK := Lib.hid hk
  clear ho hk
  generalize hlen : os.length = len at *
  have HL := Lib.hid hlen; clear hlen
  go_enter Try.func5, Try.ntmps5
  go_wp2_with fail
  refine (New_ok w).mono ?_
  rintro e w1 ⟨⟨g, S, rfl, q1, s1⟩, b1⟩
  have R1 : Hid (Run w w1 g S 0 []) := Lib.hid ⟨q1, b1, s1⟩
  have T3 : Hid (Two w (w1.alloc (.cells #[.slice none 0 0] 49)) g S w1.heap.size (.slice none 0 0) 0 []) := Lib.hid (by
    refine ⟨R1.out.below ((Below.refl _ _).alloc (Nat.le_refl _) _), ⟨new_block _ _, World.ownsRow_nil _ _ _ _, (fun b e => by cases e), Ok.nil, Nat.le_refl _⟩, fun b hb hs => ?_, fun b hb => ?_⟩
    · rcases hb with rfl | hb
      · have := R1.out.q.lt hs; omega
      · cases hb
    · rcases hb with rfl | hb
      · exact R1.out.b.size
      · cases hb)
  clear q1 s1 b1 R1
  go_wp2_with fail
  generalize w1.alloc (.cells #[.slice none 0 0] 49) = w3 at *
  generalize w1.heap.size = r at *
  go_loopw [41] (fun i wr => ∃ (k : Nat) (S : Nat → Prop) (v : Value) (L : List It), k ≤ len ∧ i = .int .i64 k ∧ Hid (Two w wr g S r v k L)) (fun i _ => len - (intOf i).toNat)
  case atStart => exact ⟨0, S, _, [], Nat.zero_le _, rfl, T3⟩
  case round =>
    clear T3
    obtain ⟨k, S, v, L, hk, rfl, HT⟩ := hrel
    by_cases hlt : k < len
    · obtain ⟨o, b, off, hko, hok, rfl, hb, hc⟩ := HO.out.one HK.out k (by rw [HL.out]; exact hlt)
      obtain ⟨c0, c1, c2, c3⟩ := hc wr HT.out.p.b
      have BX : Hid (Bx (wr.alloc (.cells #[.int .i64 o.kd, .int .i64 o.ev, .int .i64 o.fd, .int .i64 o.wn] 35)) wr.heap.size o) := Lib.hid (new_block _ _)
      have TW := Lib.hid (HT.out.below ((Below.refl _ wr).alloc (Nat.le_refl _) (.cells #[.int .i64 o.kd, .int .i64 o.ev, .int .i64 o.fd, .int .i64 o.wn] 35)))
      have hxs : Hid (¬ S wr.heap.size) := Lib.hid (fun h => by have := HT.out.p.q.lt h; omega)
      have hxr : Hid (¬ RFoot r v wr.heap.size) := Lib.hid (fun h => by have := HT.out.q.foot_lt h; omega)
      have HOK := Lib.hid hok
      have hkl : (k : Int) < (len : Int) := by omega
      clear hko hok hc HT
      obtain ⟨kd, ev, fd, wn⟩ := o
      simp only at c0 c1 c2 c3 TW BX
      go_upto_block 2 with (fail)
      generalize wr.alloc (.cells #[.int .i64 kd, .int .i64 ev, .int .i64 fd, .int .i64 wn] 35) = W0 at *
      generalize hbx : wr.heap.size = bx at *
      clear hbx
      go_cut [7] (fun s7 wx => s7 = .bool true ∧ ∃ (W9 : World) (S' : Nat → Prop) (v' : Value) (L' : List It), W9 = wx ∧ Hid (Two w W9 g S' r v' (k + 1) L') ∧ Hid (Bx W9 bx ⟨kd, ev, fd, wn⟩))
      case first =>
        obtain ⟨x0, x1, x2, x3⟩ := BX.out.cells
        simp only at x0 x1 x2 x3
        clear c0 c1 c2 c3
        by_cases h0 : kd = 0
        · subst h0
          by_cases hc : chk L ev fd wn = 0
          · have hck := Lib.hid hc
            clear hc
            as_aux_lemma =>
              go_wp2_with fail
              refine (Add_ok W0 g S k L ev fd wn TW.out.p.q (by omega) HOK.out.e HOK.out.w hck.out).mono ?_
              rintro e w4 ⟨rfl, S1, q1, st1⟩
              have Q1 := Lib.hid (q1.mono (show _ ≤ k + 1 by omega)); have ST1 := Lib.hid st1
              have MID := Lib.hid (TW.out.mid Q1.out ST1.out); have X1 := Lib.hid (BX.out.stp ST1.out hxs.out)
              clear q1 st1 x0 x1 x2 x3
              obtain ⟨x0, x1, x2, x3⟩ := X1.out.cells
              simp only at x0 x1 x2 x3
              go_wp2_with fail
              refine (radd_ok w4 r v k L ev fd wn MID.out.2.1 (by omega) HOK.out.e hck.out).mono ?_
              rintro e w5 ⟨rfl, v2, q2, st2⟩
              have T2 := Lib.hid (TW.out.step Q1.out ST1.out (q2.mono (show _ ≤ k + 1 by omega)) st2); have X2 := Lib.hid (X1.out.stp st2 hxr.out)
              clear q2 st2
              go_wp2_with fail
              go_meet
              exact ⟨by simp, _, _, _, _, rfl, T2, X2⟩
          · have hck := Lib.hid hc
            clear hc
            as_aux_lemma =>
              go_wp2_with fail
              refine (Add_bad W0 g S k L ev fd wn TW.out.p.q (by omega) HOK.out.e HOK.out.w hck.out).mono ?_
              rintro e w4 ⟨rfl, b4⟩
              have T1 := Lib.hid (TW.out.below b4); have X1 := Lib.hid (BX.out.below b4)
              clear b4 x0 x1 x2 x3
              obtain ⟨x0, x1, x2, x3⟩ := X1.out.cells
              simp only at x0 x1 x2 x3
              go_wp2_with fail
              refine (radd_bad w4 r v k L ev fd wn T1.out.q (by omega) hck.out).mono ?_
              rintro e w5 ⟨rfl, b5⟩
              have T2 := Lib.hid ((T1.out.below b5).mono (Nat.le_succ _)); have X2 := Lib.hid (X1.out.below b5)
              clear b5
              go_wp2_with fail
              go_meet
              exact ⟨by simp, _, _, _, _, rfl, T2, X2⟩
        · have e0 : (kd == 0) = false := by simpa using h0
          by_cases h1 : kd = 1
          · subst h1
            by_cases hc : asE L ev fd = 0
            · have hck := Lib.hid hc
              clear hc
              as_aux_lemma =>
                go_wp2_with fail
                refine (AddSignal_ok W0 g S k L ev fd TW.out.p.q (by omega) HOK.out.e hck.out).mono ?_
                rintro e w4 ⟨rfl, S1, q1, st1⟩
                have Q1 := Lib.hid (q1.mono (show _ ≤ k + 1 by omega)); have ST1 := Lib.hid st1
                have MID := Lib.hid (TW.out.mid Q1.out ST1.out); have X1 := Lib.hid (BX.out.stp ST1.out hxs.out)
                clear q1 st1 x0 x1 x2 x3
                obtain ⟨x0, x1, x2, x3⟩ := X1.out.cells
                simp only at x0 x1 x2 x3
                go_wp2_with fail
                refine (ras_ok w4 r v k L ev fd MID.out.2.1 (by omega) HOK.out.e hck.out).mono ?_
                rintro e w5 ⟨rfl, v2, q2, st2⟩
                have T2 := Lib.hid (TW.out.step Q1.out ST1.out (q2.mono (show _ ≤ k + 1 by omega)) st2); have X2 := Lib.hid (X1.out.stp st2 hxr.out)
                clear q2 st2
                go_wp2_with fail
                go_meet
                exact ⟨by simp, _, _, _, _, rfl, T2, X2⟩
            · have hck := Lib.hid hc
              clear hc
              as_aux_lemma =>
                go_wp2_with fail
                refine (AddSignal_bad W0 g S k L ev fd TW.out.p.q HOK.out.e hck.out).mono ?_
                rintro e w4 ⟨rfl, b4⟩
                have T1 := Lib.hid (TW.out.below b4); have X1 := Lib.hid (BX.out.below b4)
                clear b4 x0 x1 x2 x3
                obtain ⟨x0, x1, x2, x3⟩ := X1.out.cells
                simp only at x0 x1 x2 x3
                go_wp2_with fail
                refine (ras_bad w4 r v k L ev fd T1.out.q (by omega) hck.out).mono ?_
                rintro e w5 ⟨rfl, b5⟩
                have T2 := Lib.hid ((T1.out.below b5).mono (Nat.le_succ _)); have X2 := Lib.hid (X1.out.below b5)
                clear b5
                go_wp2_with fail
                go_meet
                exact ⟨by simp, _, _, _, _, rfl, T2, X2⟩
          · have e1 : (kd == 1) = false := by simpa using h1
            by_cases h2 : kd = 2
            · subst h2
              by_cases hc : (itOf L ev).wn = 0
              · have hck := Lib.hid hc
                clear hc
                as_aux_lemma =>
                  go_wp2_with fail
                  refine (Cut_bad W0 g S k L ev TW.out.p.q HOK.out.e hck.out).mono ?_
                  rintro e w4 ⟨rfl, b4⟩
                  have T1 := Lib.hid (TW.out.below b4); have X1 := Lib.hid (BX.out.below b4)
                  clear b4 x0 x1 x2 x3
                  obtain ⟨x0, x1, x2, x3⟩ := X1.out.cells
                  simp only at x0 x1 x2 x3
                  go_wp2_with fail
                  refine (rcut_bad w4 r v k L ev T1.out.q (by omega) hck.out).mono ?_
                  rintro e w5 ⟨rfl, b5⟩
                  have T2 := Lib.hid ((T1.out.below b5).mono (Nat.le_succ _)); have X2 := Lib.hid (X1.out.below b5)
                  clear b5
                  go_wp2_with fail
                  go_meet
                  exact ⟨by simp, _, _, _, _, rfl, T2, X2⟩
              · cases hlk : look L ev with
                | none => rw [it_none hlk] at hc; exact absurd rfl hc
                | some t =>
                  rw [it_some hlk] at hc
                  obtain ⟨ht, rfl⟩ := look_some hlk
                  have hck := Lib.hid hc; have htm := Lib.hid ht
                  clear hc ht hlk
                  as_aux_lemma =>
                    go_wp2_with fail
                    refine (Cut_ok W0 g S k L t TW.out.p.q (by omega) htm.out hck.out).mono ?_
                    rintro e w4 ⟨rfl, S1, q1, st1⟩
                    have Q1 := Lib.hid (q1.mono (show _ ≤ k + 1 by omega)); have ST1 := Lib.hid st1
                    have MID := Lib.hid (TW.out.mid Q1.out ST1.out); have X1 := Lib.hid (BX.out.stp ST1.out hxs.out)
                    clear q1 st1 x0 x1 x2 x3
                    obtain ⟨x0, x1, x2, x3⟩ := X1.out.cells
                    simp only at x0 x1 x2 x3
                    go_wp2_with fail
                    refine (rcut_ok w4 r v k L t MID.out.2.1 (by omega) htm.out hck.out).mono ?_
                    rintro e w5 ⟨rfl, v2, q2, st2⟩
                    have T2 := Lib.hid (TW.out.step Q1.out ST1.out (q2.mono (show _ ≤ k + 1 by omega)) st2); have X2 := Lib.hid (X1.out.stp st2 hxr.out)
                    clear q2 st2
                    go_wp2_with fail
                    go_meet
                    exact ⟨by simp, _, _, _, _, rfl, T2, X2⟩
            · have e2 : (kd == 2) = false := by simpa using h2
              by_cases h3 : kd = 3
              · subst h3
                by_cases hc : look L ev = none ∨ (itOf L ev).wn ≠ 0
                · have hck := Lib.hid hc
                  clear hc
                  as_aux_lemma =>
                    go_wp2_with fail
                    refine (CutSignal_bad W0 g S k L ev TW.out.p.q HOK.out.e hck.out).mono ?_
                    rintro e w4 ⟨rfl, b4⟩
                    have T1 := Lib.hid (TW.out.below b4); have X1 := Lib.hid (BX.out.below b4)
                    clear b4 x0 x1 x2 x3
                    obtain ⟨x0, x1, x2, x3⟩ := X1.out.cells
                    simp only at x0 x1 x2 x3
                    go_wp2_with fail
                    refine (rcuts_bad w4 r v k L ev T1.out.q (by omega) hck.out).mono ?_
                    rintro e w5 ⟨rfl, b5⟩
                    have T2 := Lib.hid ((T1.out.below b5).mono (Nat.le_succ _)); have X2 := Lib.hid (X1.out.below b5)
                    clear b5
                    go_wp2_with fail
                    go_meet
                    exact ⟨by simp, _, _, _, _, rfl, T2, X2⟩
                · cases hlk : look L ev with
                  | none => exact absurd (.inl hlk) hc
                  | some t =>
                    have hw0 : t.wn = 0 := by
                      refine Decidable.byContradiction fun h => hc (.inr ?_)
                      rw [it_some hlk]; exact h
                    obtain ⟨ht, rfl⟩ := look_some hlk
                    have hck := Lib.hid hw0; have htm := Lib.hid ht
                    clear hc hw0 ht hlk
                    as_aux_lemma =>
                      go_wp2_with fail
                      refine (CutSignal_ok W0 g S k L t TW.out.p.q (by omega) htm.out hck.out).mono ?_
                      rintro e w4 ⟨rfl, S1, q1, st1⟩
                      have Q1 := Lib.hid (q1.mono (show _ ≤ k + 1 by omega)); have ST1 := Lib.hid st1
                      have MID := Lib.hid (TW.out.mid Q1.out ST1.out); have X1 := Lib.hid (BX.out.stp ST1.out hxs.out)
                      clear q1 st1 x0 x1 x2 x3
                      obtain ⟨x0, x1, x2, x3⟩ := X1.out.cells
                      simp only at x0 x1 x2 x3
                      go_wp2_with fail
                      refine (rcuts_ok w4 r v k L t MID.out.2.1 (by omega) htm.out hck.out).mono ?_
                      rintro e w5 ⟨rfl, v2, q2, st2⟩
                      have T2 := Lib.hid (TW.out.step Q1.out ST1.out (q2.mono (show _ ≤ k + 1 by omega)) st2); have X2 := Lib.hid (X1.out.stp st2 hxr.out)
                      clear q2 st2
                      go_wp2_with fail
                      go_meet
                      exact ⟨by simp, _, _, _, _, rfl, T2, X2⟩
              · have e3 : (kd == 3) = false := by simpa using h3
                by_cases h4 : kd = 4
                · subst h4
                  go_wp2_with fail
                  refine (Hits_any W0 g S k L fd wn TW.out.p.q (by omega)).mono ?_
                  rintro e w4 ⟨⟨u4, rfl, ru⟩, b4⟩
                  have T1 := Lib.hid (TW.out.below b4); have X1 := Lib.hid (BX.out.below b4); have U4 := Lib.hid (row_base ru)
                  clear b4 ru x0 x1 x2 x3
                  obtain ⟨x0, x1, x2, x3⟩ := X1.out.cells
                  simp only at x0 x1 x2 x3
                  go_wp2_with fail
                  refine (rhits_any w4 r v k L fd wn T1.out.q (by omega)).mono ?_
                  rintro e w5 ⟨⟨u5, rfl, ru⟩, b5⟩
                  have T2 := Lib.hid (T1.out.below b5); have X2 := Lib.hid (X1.out.below b5); have U5 := Lib.hid (row_base ru); have U4' := Lib.hid (row_keep U4.out b5)
                  clear b5 ru x0 x1 x2 x3
                  have hll : (hitsL (ofL L fd) wn).length ≤ 20000 := Nat.le_trans (hits_len _ _) (Nat.le_trans (ofL_len L fd) (by have := T2.out.p.q.ln; omega))
                  go_wp2_with fail
                  refine (hits_same w5 u4 u5 _ hll U4'.out U5.out).mono ?_
                  rintro e w6 ⟨rfl, b6⟩
                  have T3 := Lib.hid ((T2.out.below b6).mono (Nat.le_succ _)); have X3 := Lib.hid (X2.out.below b6)
                  clear b6
                  go_wp2_with fail
                  go_meet
                  exact ⟨by simp, _, _, _, _, rfl, T3, X3⟩
                · have e4 : (kd == 4) = false := by simpa using h4
                  go_wp2_with fail
                  go_meet
                  exact ⟨rfl, _, _, _, _, rfl, Lib.hid (TW.out.mono (Nat.le_succ _)), BX⟩
      case rest =>
        obtain ⟨rfl, wx, S', v', L', rfl, HT', HX'⟩ := hcut
        clear TW BX hxs hxr c0 c1 c2 c3 hb
        have HTO := Lib.hid (told_any wx g S' r v' (k + 1) L' ⟨kd, ev, fd, wn⟩ HT'.out.p.q HT'.out.q (by omega) HOK.out)
        obtain ⟨x0, x1, x2, x3⟩ := HX'.out.cells
        simp only at x0 x1 x2 x3
        go_wp2_with fail
        refine HTO.out.mono ?_
        rintro e w7 ⟨rfl, b7⟩
        have T7 := Lib.hid (HT'.out.below b7)
        clear b7 HTO
        go_wp2_with fail
        go_roundw
        case rel => exact ⟨k + 1, S', v', L', by omega, by go_num, T7⟩
        case measure => simp [intOf]; omega
    · obtain rfl : k = len := by omega
      go_wp2_with fail
      go_ret
      exact ⟨rfl, HT.out.p.b⟩

theorem plays_top {H : Type} {enc : TypeId × Value → H} {base : Nat} {held : Bool} (v : Value) (d : DataW H) (p : List MemPlace) (w : World) {r : Reach} {b0 : Nat} (hv : Value.okWide Try.prog w r b0 22 v) (h : DataW.Trod enc Try.prog w base (fun _ => true) held 22 v d p) :
    Calls Try.prog 5 #[v] w fun e w' => e = .returned (.bool true) ∧ Below w.heap.size w w' := by
  obtain ⟨a, cap, os, rfl, hm, ho, hk⟩ := open_ops hv h
  by_cases hin : os.length ≤ 200
  · exact plays_in a cap os w hin ho hk
  · exact plays_out a os.length cap w hm (by omega)
end Go.Proofs.Ytllolfbjmpaamaa
