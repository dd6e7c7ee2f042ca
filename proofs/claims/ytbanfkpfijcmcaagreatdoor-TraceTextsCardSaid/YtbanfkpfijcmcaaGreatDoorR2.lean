/- read, walked: lines of the second kind. (Printed by tools/genRw.py.) -/
import Derived.Test.YtbanfkpfijcmcaaGreatDoorRx
namespace Go.Proofs.YtbanfkpfijcmcaaGreatDoor
open Go.RowKit
set_option linter.unusedSimpArgs false
set_option linter.unusedVariables false
set_option maxRecDepth 100000

set_option maxHeartbeats 8000000 in
theorem read_k2 (s : ByteArray) (w : World) (hE : Ep w) (hs : s.size ≤ 1000000) (hk : kindF (wAt (pcW s) 0) = 2) (hn : (pcW s).length = 5) : Calls Tryz.prog 34 #[.string s] w (ReadP s w) := by
  have hmf : ∀ (fn : Fn) (first cap : Array Value) (w : World), (Instr.makeFunc fn first cap).run Tryz.prog w = .ok (.func fn first cap) w := fun _ _ _ _ => rfl
  have HSP := Lib.hid (fun W (hW : Below w.heap.size w W) => split_any s W (hE.below hW) hs)
  have HTW := Lib.hid (fun W (hW : Below w.heap.size w W) => (hE.below hW).e.tw)
  have X0 := Lib.hid (XI.start w zeroX)
  have hpos := pcW_pos s
  have HN := Lib.hid (fun (i : Nat) W (hi : i < (pcW s).length) (hW : Below w.heap.size w W) => number_any (wAt (pcW s) i) W (hE.below hW) (by have := wsz hi; omega))
  have HT := Lib.hid (fun (i : Nat) W (hi : i < (pcW s).length) (hW : Below w.heap.size w W) => tick_any (wAt (pcW s) i) W (hE.below hW) (by have := wsz hi; omega))
  have HRS : Hid (readF s = match guessL (pcW s) with | none => none | some x => if mayF x && (lineL x == s.data.toList) then some x else none) := Lib.hid rfl
  have HEB := Lib.hid (fun W (hW : Below w.heap.size w W) => hE.below hW)
  have HFP := Lib.hid (fun (i : Nat) W (hi : i < (pcW s).length) (hW : Below w.heap.size w W) => Fl.Parse_any (wAt (pcW s) i) W (hE.below hW).e.f (hE.below hW).m (Nat.le_trans (wsz hi) hs))
  clear hE
  generalize hL : pcW s = L at *
  clear hL
  have hp0 : (0 : Int) < L.length := by omega
  go_enter_defers Tryz.func34, Tryz.ntmps34
  go_upto_region 2 with (fail)
  have e0 : ((w.alloc (.cells #[.int .i64 0, .int .u64 0, .int .i64 0, .int .i64 0, .int .i64 0, .int .i64 0, .slice none 0 0] 28)).alloc (.cells #[.bool false] 4)) = ((w.alloc (.cells zeroX 28)).alloc (.cells #[.bool false] 4)) := rfl
  rw [e0]
  clear e0
  generalize ((w.alloc (.cells zeroX 28)).alloc (.cells #[.bool false] 4)) = W1 at *
  go_wp2_with fail
  refine (HSP.out _ X0.out.b).mono ?_
  rintro e W2 ⟨b, rfl, hc, hb, hle, bel⟩
  rw [hn]
  have X2 : Hid (XL w W2 zeroX L b) := Lib.hid ⟨X0.out.below bel, by have := lt_of_block X0.out.i; omega, hb, hc⟩
  have t0 := HTW.out _ X2.out.h.b 0 (by omega)
  have t1 := HTW.out _ X2.out.h.b 1 (by omega)
  have t2 := HTW.out _ X2.out.h.b 2 (by omega)
  have t3 := HTW.out _ X2.out.h.b 3 (by omega)
  have t4 := HTW.out _ X2.out.h.b 4 (by omega)
  simp only [twl, List.getD_cons_zero, List.getD_cons_succ] at t0 t1 t2 t3 t4
  clear bel hb hc hle X0
  go_wp2_with fail
  have s3 := new_block W2 (.cells #[.string ⟨#[]⟩, .string ⟨#[116, 117, 114, 110]⟩, .string ⟨#[114, 117, 110]⟩, .string ⟨#[100, 105, 100]⟩, .string ⟨#[101, 110, 100]⟩] 73)
  have b3 := ((Below.refl W2.heap.size W2).alloc (Nat.le_refl _) (.cells #[.string ⟨#[]⟩, .string ⟨#[116, 117, 114, 110]⟩, .string ⟨#[114, 117, 110]⟩, .string ⟨#[100, 105, 100]⟩, .string ⟨#[101, 110, 100]⟩] 73))
  generalize (W2.alloc (.cells #[.string ⟨#[]⟩, .string ⟨#[116, 117, 114, 110]⟩, .string ⟨#[114, 117, 110]⟩, .string ⟨#[100, 105, 100]⟩, .string ⟨#[101, 110, 100]⟩] 73)) = W3 at *
  clear t0 t1 t2 t3 t4
  have X3 := Lib.hid (X2.out.below b3)
  have HC3 := Lib.hid (fun W (hW : Below W3.heap.size W3 W) => (X3.out.below hW).c)
  have HIX := Lib.hid (fun W (hW : Below W3.heap.size W3 W) (x : ByteArray) => index_any (w := w) ((hW.block _ (lt_of_block s3)).trans s3) x)
  clear b3 s3 X2
  generalize hK : kindF (wAt L 0) = k at *
  generalize hx0 : wAt L 0 = x0 at *
  have HK := Lib.hid hK; have HX0 := Lib.hid hx0
  clear hK hx0
  go_region_held3 (fun W => Below W3.heap.size W3 W ∧ W.cell? ⟨b, 0, none⟩ = some (.string x0))
    (first | exact ⟨(Below.refl _ _).drew, by rw [← HX0.out]; exact HC3.out _ (Below.refl _ _).drew 0 hpos⟩ | exact ⟨C1.out, by rw [← HX0.out]; exact HC3.out _ C1.out 0 hpos⟩)
    (first | (go_at_call 54; refine (HIX.out _ (Below.refl _ _).drew _).mono ?_; rintro e u1 ⟨rfl, c1⟩; rw [HK.out]; have C1 : Hid (Below W3.heap.size W3 u1) := Lib.hid ((Below.refl _ _).drew.trans c1); clear c1))
  subst hk
  have X5 := Lib.hid (X3.out.below C1.out)
  clear C1 HC3 HIX X3 HSP HTW hmf
  go_upto_region 7 with (fail)
  have bU := (Below.refl u1.heap.size u1).alloc (Nat.le_refl _) (.cells #[.int .i64 0, .int .i64 3, .int .i64 5, .int .i64 6, .int .i64 4] 3)
  generalize u1.alloc (.cells #[.int .i64 0, .int .i64 3, .int .i64 5, .int .i64 6, .int .i64 4] 3) = U2 at *
  have X6 := Lib.hid (X5.out.below bU)
  have w1 := X6.out.c 1 (by omega)
  clear bU X5
  go_wp2_with fail
  refine (HT.out 1 U2 (by omega) X6.out.h.b).mono ?_
  rintro e U3 ⟨ev, rfl, b3⟩
  have X7 := Lib.hid (X6.out.below b3)
  clear b3 X6 w1
  obtain ⟨c0, f0, c1, f1, c2, f2, c3, f3, c4, f4, c5, f5, c6, f6⟩ := cells7 X7.out.h.x
  obtain ⟨d0, e0⟩ := cells1 X7.out.h.i
  have X8 := Lib.hid (X7.out.row (.int .i64 2) (.int .u64 (tickF (wAt L 1))) (.int .i64 0) (.int .i64 0) (.int .i64 0) (.int .i64 0) (.slice none 0 0))
  go_upto_region 14 with (fail)
  generalize (((((((U3.setCell ⟨w.heap.size, 0, none⟩ (.int .i64 2)).setCell ⟨w.heap.size, 1, none⟩ (.int .u64 (tickF (wAt L 1)))).setCell ⟨w.heap.size, 2, none⟩ (.int .i64 0)).setCell ⟨w.heap.size, 3, none⟩ (.int .i64 0)).setCell ⟨w.heap.size, 4, none⟩ (.int .i64 0)).setCell ⟨w.heap.size, 5, none⟩ (.int .i64 0)).setCell ⟨w.heap.size, 6, none⟩ (.slice none 0 0)) = U4 at *
  clear c0 f0 c1 f1 c2 f2 c3 f3 c4 f4 c5 f5 c6 f6 d0 e0
  clear X7 HT
  refine wp_region_held_drew (S := fun W => ∃ cs, cs.size = 7 ∧ XL w W cs L b) (by kernel_rfl) ⟨_, rfl, X8.out.below (Below.refl _ _).drew⟩ (fun hHeld => ?_)
  have Y0 := Lib.hid (X8.out.below (Below.refl _ _).drew)
  clear X8
  refine wpAnyH_take (i := 0) (v := .slice (some ⟨b, 0, none⟩) 5 5) (List.getElem?_toArray.trans rfl) (by kernel_rfl) (by kernel_rfl) (by kernel_rfl) (fun c a w h => hq20 (by decide) (by decide) c a w h) (Or.inl ⟨by rfl, by intro W hSw; go_simp⟩) (by assumption) ?_
  (try simp only [Act.put, List.setIfInBounds_toArray, List.set_cons_zero, List.set_cons_succ])
  refine wpAnyH_take (i := 1) (v := .pointer (some ⟨b, 2, none⟩)) (List.getElem?_toArray.trans rfl) (by kernel_rfl) (by kernel_rfl) (by kernel_rfl) (fun c a w h => hq20 (by decide) (by decide) c a w h) (Or.inl ⟨by rfl, by intro W hSw; go_simp⟩) (by assumption) ?_
  (try simp only [Act.put, List.setIfInBounds_toArray, List.set_cons_zero, List.set_cons_succ])
  refine wpAnyH_take (i := 2) (v := .string (wAt L 2)) (List.getElem?_toArray.trans rfl) (by kernel_rfl) (by kernel_rfl) (by kernel_rfl) (fun c a w h => hq20 (by decide) (by decide) c a w h) (Or.inl ⟨by rfl, by intro W hSw; obtain ⟨cs, hcs, hX⟩ := hSw; have hc := hX.c 2 (by omega); clear hX; go_simp⟩) (by assumption) ?_
  (try simp only [Act.put, List.setIfInBounds_toArray, List.set_cons_zero, List.set_cons_succ])
  refine wpAnyH_take (i := 4) (v := .slice (some ⟨b, 0, none⟩) 5 5) (List.getElem?_toArray.trans rfl) (by kernel_rfl) (by kernel_rfl) (by kernel_rfl) (fun c a w h => hq20 (by decide) (by decide) c a w h) (Or.inl ⟨by rfl, by intro W hSw; go_simp⟩) (by assumption) ?_
  (try simp only [Act.put, List.setIfInBounds_toArray, List.set_cons_zero, List.set_cons_succ])
  refine wpAnyH_take (i := 5) (v := .pointer (some ⟨b, 4, none⟩)) (List.getElem?_toArray.trans rfl) (by kernel_rfl) (by kernel_rfl) (by kernel_rfl) (fun c a w h => hq20 (by decide) (by decide) c a w h) (Or.inl ⟨by rfl, by intro W hSw; go_simp⟩) (by assumption) ?_
  (try simp only [Act.put, List.setIfInBounds_toArray, List.set_cons_zero, List.set_cons_succ])
  refine wpAnyH_take (i := 6) (v := .string (wAt L 4)) (List.getElem?_toArray.trans rfl) (by kernel_rfl) (by kernel_rfl) (by kernel_rfl) (fun c a w h => hq20 (by decide) (by decide) c a w h) (Or.inl ⟨by rfl, by intro W hSw; obtain ⟨cs, hcs, hX⟩ := hSw; have hc := hX.c 4 (by omega); clear hX; go_simp⟩) (by assumption) ?_
  (try simp only [Act.put, List.setIfInBounds_toArray, List.set_cons_zero, List.set_cons_succ])
  refine wpAnyH_ready (rs := [3]) (by kernel_rfl) (by simp) ?_
  refine AllReadyH.cons (List.getElem?_toArray.trans rfl) (fun K hK => ?_) AllReadyH.nil
  go_simp
  go_at_call 56
  refine (HN.out 2 _ (by omega) Y0.out.h.b).mono ?_
  rintro e u1 ⟨hm, b1⟩
  have Y1 := Lib.hid (Y0.out.below b1)
  clear b1
  rcases hN1 : numF (wAt L 2) with _ | n1
  · rw [hN1] at hm
    subst hm
    exact leave_none rfl rfl Y1.out rfl (by rw [HRS.out]; simp [guessL, HX0.out, HK.out, hn, cntF, hN1])
  rw [hN1] at hm
  simp only at hm
  subst hm
  refine hK.out _ _ ⟨_, rfl, Y1.out⟩ (fun hHeld => ?_)
  clear hK K
  (try simp only [Act.put, List.setIfInBounds_toArray, List.set_cons_zero, List.set_cons_succ])
  refine wpAnyH_take (i := 8) (v := .pointer (some ⟨w.heap.size, 2, none⟩)) (List.getElem?_toArray.trans rfl) (by kernel_rfl) (by kernel_rfl) (by kernel_rfl) (fun c a w h => hq20 (by decide) (by decide) c a w h) (Or.inl ⟨by rfl, by intro W hSw; go_simp⟩) (by assumption) ?_
  (try simp only [Act.put, List.setIfInBounds_toArray, List.set_cons_zero, List.set_cons_succ])
  refine wpAnyH_ready (rs := [7]) (by kernel_rfl) (by simp) ?_
  refine AllReadyH.cons (List.getElem?_toArray.trans rfl) (fun K hK => ?_) AllReadyH.nil
  go_simp
  go_at_call 56
  refine (HN.out 4 _ (by omega) Y1.out.h.b).mono ?_
  rintro e u2 ⟨hm, b2⟩
  have Y2 := Lib.hid (Y1.out.below b2)
  clear b2
  rcases hN2 : numF (wAt L 4) with _ | n2
  · rw [hN2] at hm
    subst hm
    exact leave_none rfl rfl Y2.out rfl (by rw [HRS.out]; simp [guessL, HX0.out, HK.out, hn, cntF, hN1, hN2])
  rw [hN2] at hm
  simp only at hm
  subst hm
  refine hK.out _ _ ⟨_, rfl, Y2.out⟩ (fun hHeld => ?_)
  clear hK K
  (try simp only [Act.put, List.setIfInBounds_toArray, List.set_cons_zero, List.set_cons_succ])
  obtain ⟨c0, f0, c1, f1, c2, f2, c3, f3, c4, f4, c5, f5, c6, f6⟩ := cells7 Y2.out.h.x
  clear c0 f0 c1 f1 c3 f3 c4 f4 c5 f5 c6 f6
  refine wpAnyH_ready (rs := [9]) (by kernel_rfl) (by simp) ?_
  refine AllReadyH.cons (List.getElem?_toArray.trans rfl) (fun K hK => ?_) AllReadyH.nil
  go_simp
  have Y3 : Hid (XL w (u2.setCell ⟨w.heap.size, 2, none⟩ (.int .i64 n1)) #[(.int .i64 2), (.int .u64 (tickF (wAt L 1))), (.int .i64 n1), (.int .i64 0), (.int .i64 0), (.int .i64 0), (.slice none 0 0)] L b) := Lib.hid (by have := Y2.out.set 2 (.int .i64 n1); simpa using this)
  clear c2 f2
  refine hK.out _ _ ⟨_, rfl, Y3.out⟩ (fun hHeld => ?_)
  clear hK K
  (try simp only [Act.put, List.setIfInBounds_toArray, List.set_cons_zero, List.set_cons_succ])
  clear Y2
  generalize (u2.setCell ⟨w.heap.size, 2, none⟩ (.int .i64 n1)) = V3 at *
  refine wpAnyH_take (i := 10) (v := .pointer (some ⟨w.heap.size, 4, none⟩)) (List.getElem?_toArray.trans rfl) (by kernel_rfl) (by kernel_rfl) (by kernel_rfl) (fun c a w h => hq20 (by decide) (by decide) c a w h) (Or.inl ⟨by rfl, by intro W hSw; go_simp⟩) (by assumption) ?_
  (try simp only [Act.put, List.setIfInBounds_toArray, List.set_cons_zero, List.set_cons_succ])
  obtain ⟨c0, f0, c1, f1, c2, f2, c3, f3, c4, f4, c5, f5, c6, f6⟩ := cells7 Y3.out.h.x
  clear c0 f0 c1 f1 c2 f2 c3 f3 c5 f5 c6 f6
  refine wpAnyH_ready (rs := [11]) (by kernel_rfl) (by simp) ?_
  refine AllReadyH.cons (List.getElem?_toArray.trans rfl) (fun K hK => ?_) AllReadyH.nil
  go_simp
  have Y4 : Hid (XL w (V3.setCell ⟨w.heap.size, 4, none⟩ (.int .i64 n2)) #[(.int .i64 2), (.int .u64 (tickF (wAt L 1))), (.int .i64 n1), (.int .i64 0), (.int .i64 n2), (.int .i64 0), (.slice none 0 0)] L b) := Lib.hid (by have := Y3.out.set 4 (.int .i64 n2); simpa using this)
  clear c4 f4
  refine hK.out _ _ ⟨_, rfl, Y4.out⟩ (fun hHeld => ?_)
  clear hK K
  (try simp only [Act.put, List.setIfInBounds_toArray, List.set_cons_zero, List.set_cons_succ])
  clear Y3
  generalize (V3.setCell ⟨w.heap.size, 4, none⟩ (.int .i64 n2)) = V4 at *
  refine wpAnyH_done (by kernel_rfl) ?_ _
  have HG : Hid (guessL L = some ⟨2, tickF (wAt L 1), n1, Fl.paR 0 (wAt L 3), n2, 0, []⟩) := Lib.hid (by simp [guessL, HX0.out, HK.out, hn, cntF, hN1, hN2])
  have HRX : Hid (readF s = if mayF ⟨2, tickF (wAt L 1), n1, Fl.paR 0 (wAt L 3), n2, 0, []⟩ && (lineL ⟨2, tickF (wAt L 1), n1, Fl.paR 0 (wAt L 3), n2, 0, []⟩ == s.data.toList) then some ⟨2, tickF (wAt L 1), n1, Fl.paR 0 (wAt L 3), n2, 0, []⟩ else none) := Lib.hid (by rw [HRS.out, HG.out])
  clear HRS
  have w3 := Y4.out.c 3 (by omega)
  go_wp2_with fail
  refine (HFP.out 3 _ (by omega) Y4.out.h.b).mono ?_
  rintro e U5 ⟨rfl, b5⟩
  have X9 := Lib.hid (Y4.out.below b5)
  clear b5 w3 HFP HN HX0 hN1 hN2
  generalize hpf : Fl.paR 0 (wAt L 3) = pf at *
  clear hpf
  have K6 : Hid (XK w (U5.setCell ⟨w.heap.size, 3, none⟩ (.int .i64 pf)) (.int .i64 2) (.int .u64 (tickF (wAt L 1))) (.int .i64 n1) (.int .i64 pf) (.int .i64 n2) (.int .i64 0) (.slice none 0 0) []) := Lib.hid (XK.of (by have := X9.out.h.set 3 (.int .i64 pf); simpa using this) (World.ownsRow_nil _ _ _ _))
  obtain ⟨c0, f0, c1, f1, c2, f2, c3, f3, c4, f4, c5, f5, c6, f6⟩ := cells7 X9.out.h.x
  obtain ⟨d0, e0⟩ := cells1 X9.out.h.i
  go_upto_region 18 with (fail)
  generalize (U5.setCell ⟨w.heap.size, 3, none⟩ (.int .i64 pf)) = U6 at *
  clear c0 f0 c1 f1 c2 f2 c3 f3 c4 f4 c5 f5 c6 f6 d0 e0
  clear X9
  have LV : Hid (∀ (tmps : Array Value) (W : World), tmps.getD 2 undef = .pointer (some ⟨w.heap.size, 0, none⟩) → tmps.getD 3 undef = .pointer (some ⟨w.heap.size + 1, 0, none⟩) → XK w W (.int .i64 2) (.int .u64 (tickF (wAt L 1))) (.int .i64 n1) (.int .i64 pf) (.int .i64 n2) (.int .i64 0) (.slice none 0 0) [] → W.heap[w.heap.size + 1]? = some (.cells #[.bool (mayF ⟨2, tickF (wAt L 1), n1, pf, n2, 0, []⟩ && (lineL ⟨2, tickF (wAt L 1), n1, pf, n2, 0, []⟩ == s.data.toList))] 4 (0, 0)) → Leaves Tryz.prog Tryz.f34 tmps (ReadP s w) [dfr w.heap.size] .returning W) :=
    Lib.hid fun tmps W h2 h3 h hi => leave_read (x := ⟨2, tickF (wAt L 1), n1, pf, n2, 0, []⟩) h2 h3 h hi HRX.out
  have HM : Hid (∀ W, XK w W (.int .i64 2) (.int .u64 (tickF (wAt L 1))) (.int .i64 n1) (.int .i64 pf) (.int .i64 n2) (.int .i64 0) (.slice none 0 0) [] → Calls Tryz.prog 20 #[.agg #[(.int .i64 2), (.int .u64 (tickF (wAt L 1))), (.int .i64 n1), (.int .i64 pf), (.int .i64 n2), (.int .i64 0), (.slice none 0 0)]] W fun e w' => e = .returned (.bool (mayF ⟨2, tickF (wAt L 1), n1, pf, n2, 0, []⟩)) ∧ Below W.heap.size W w') := Lib.hid (fun W h => may_any ⟨2, tickF (wAt L 1), n1, pf, n2, 0, []⟩ (.slice none 0 0) W (HEB.out W h.b).e (data_own h.r))
  have HL : Hid (mayF ⟨2, tickF (wAt L 1), n1, pf, n2, 0, []⟩ = true → ∀ W, XK w W (.int .i64 2) (.int .u64 (tickF (wAt L 1))) (.int .i64 n1) (.int .i64 pf) (.int .i64 n2) (.int .i64 0) (.slice none 0 0) [] → Calls Tryz.prog 30 #[.agg #[(.int .i64 2), (.int .u64 (tickF (wAt L 1))), (.int .i64 n1), (.int .i64 pf), (.int .i64 n2), (.int .i64 0), (.slice none 0 0)]] W fun e w' => e = .returned (.string ⟨(lineL ⟨2, tickF (wAt L 1), n1, pf, n2, 0, []⟩).toArray⟩) ∧ Below W.heap.size W w') := Lib.hid (fun hm W h => line_any ⟨2, tickF (wAt L 1), n1, pf, n2, 0, []⟩ (.slice none 0 0) W (HEB.out W h.b).e (data_own h.r) (guess_ok HG.out) hm)
  have hb : ((⟨(lineL ⟨2, tickF (wAt L 1), n1, pf, n2, 0, []⟩).toArray⟩ : ByteArray).toList == s.toList) = (lineL ⟨2, tickF (wAt L 1), n1, pf, n2, 0, []⟩ == s.data.toList) := by rw [Fl.beq_data]
  clear HRX HG HEB
  generalize (lineL ⟨2, tickF (wAt L 1), n1, pf, n2, 0, []⟩ == s.data.toList) = bb at *
  generalize (⟨(lineL ⟨2, tickF (wAt L 1), n1, pf, n2, 0, []⟩).toArray⟩ : ByteArray) = ln at *
  generalize mayF ⟨2, tickF (wAt L 1), n1, pf, n2, 0, []⟩ = mv at *
  generalize (tickF (wAt L 1)) = tk at *
  refine wp_region_held_drew (S := fun W => XK w W (.int .i64 2) (.int .u64 tk) (.int .i64 n1) (.int .i64 pf) (.int .i64 n2) (.int .i64 0) (.slice none 0 0) []) (by kernel_rfl) (K6.out.below (Below.refl _ _).drew) (fun hHeld => ?_)
  have Y0 : Hid (XK w U6.drew (.int .i64 2) (.int .u64 tk) (.int .i64 n1) (.int .i64 pf) (.int .i64 n2) (.int .i64 0) (.slice none 0 0) []) := Lib.hid (K6.out.below (Below.refl _ _).drew)
  clear K6
  refine wpAnyH_take (i := 0) (v := .agg #[(.int .i64 2), (.int .u64 tk), (.int .i64 n1), (.int .i64 pf), (.int .i64 n2), (.int .i64 0), (.slice none 0 0)]) (List.getElem?_toArray.trans rfl) (by kernel_rfl) (by kernel_rfl) (by kernel_rfl) (fun c a w h => hq20 (by decide) (by decide) c a w h) (Or.inl ⟨by rfl, by intro W hSw; obtain ⟨c0, f0, c1, f1, c2, f2, c3, f3, c4, f4, c5, f5, c6, f6⟩ := cells7 hSw.x; clear hSw; go_simp⟩) (by assumption) ?_
  (try simp only [Act.put, List.setIfInBounds_toArray, List.set_cons_zero, List.set_cons_succ])
  refine wpAnyH_take (i := 1) (v := .agg #[(.int .i64 2), (.int .u64 tk), (.int .i64 n1), (.int .i64 pf), (.int .i64 n2), (.int .i64 0), (.slice none 0 0)]) (List.getElem?_toArray.trans rfl) (by kernel_rfl) (by kernel_rfl) (by kernel_rfl) (fun c a w h => hq20 (by decide) (by decide) c a w h) (Or.inl ⟨by rfl, by intro W hSw; obtain ⟨c0, f0, c1, f1, c2, f2, c3, f3, c4, f4, c5, f5, c6, f6⟩ := cells7 hSw.x; clear hSw; go_simp⟩) (by assumption) ?_
  (try simp only [Act.put, List.setIfInBounds_toArray, List.set_cons_zero, List.set_cons_succ])
  refine wpAnyH_ready (rs := [2]) (by kernel_rfl) (by simp) ?_
  refine AllReadyH.cons (List.getElem?_toArray.trans rfl) (fun K hK => ?_) AllReadyH.nil
  go_simp
  go_at_call 20
  refine (HM.out _ Y0.out).mono ?_
  rintro e u1 ⟨rfl, c1⟩
  have Y1 : Hid (XK w u1 (.int .i64 2) (.int .u64 tk) (.int .i64 n1) (.int .i64 pf) (.int .i64 n2) (.int .i64 0) (.slice none 0 0) []) := Lib.hid (Y0.out.below c1)
  clear c1 Y0 HM
  refine hK.out _ _ Y1.out (fun hHeld => ?_)
  clear hK K
  (try simp only [Act.put, List.setIfInBounds_toArray, List.set_cons_zero, List.set_cons_succ])
  cases mv
  · skip
    refine wpAnyH_take (i := 3) (v := .bool false) (List.getElem?_toArray.trans rfl) (by kernel_rfl) (by kernel_rfl) (by kernel_rfl) (fun c a w h => hq20 (by decide) (by decide) c a w h) (Or.inl ⟨by rfl, by intro W hSw; go_simp⟩) (by assumption) ?_
    (try simp only [Act.put, List.setIfInBounds_toArray, List.set_cons_zero, List.set_cons_succ])
    simp only [Bool.false_and] at LV
    refine wpAnyH_take (i := 4) (v := undef) (List.getElem?_toArray.trans rfl) (by kernel_rfl) (by kernel_rfl) (by kernel_rfl) (fun c a w h => hq20 (by decide) (by decide) c a w h) (Or.inr ⟨by rfl, rfl⟩) (by assumption) ?_
    (try simp only [Act.put, List.setIfInBounds_toArray, List.set_cons_zero, List.set_cons_succ])
    refine wpAnyH_take (i := 5) (v := undef) (List.getElem?_toArray.trans rfl) (by kernel_rfl) (by kernel_rfl) (by kernel_rfl) (fun c a w h => hq20 (by decide) (by decide) c a w h) (Or.inr ⟨by rfl, rfl⟩) (by assumption) ?_
    (try simp only [Act.put, List.setIfInBounds_toArray, List.set_cons_zero, List.set_cons_succ])
    refine wpAnyH_take (i := 6) (v := undef) (List.getElem?_toArray.trans rfl) (by kernel_rfl) (by kernel_rfl) (by kernel_rfl) (fun c a w h => hq20 (by decide) (by decide) c a w h) (Or.inr ⟨by rfl, rfl⟩) (by assumption) ?_
    (try simp only [Act.put, List.setIfInBounds_toArray, List.set_cons_zero, List.set_cons_succ])
    refine wpAnyH_take (i := 7) (v := undef) (List.getElem?_toArray.trans rfl) (by kernel_rfl) (by kernel_rfl) (by kernel_rfl) (fun c a w h => hq20 (by decide) (by decide) c a w h) (Or.inr ⟨by rfl, rfl⟩) (by assumption) ?_
    (try simp only [Act.put, List.setIfInBounds_toArray, List.set_cons_zero, List.set_cons_succ])
    refine wpAnyH_take (i := 8) (v := .bool false) (List.getElem?_toArray.trans rfl) (by kernel_rfl) (by kernel_rfl) (by kernel_rfl) (fun c a w h => hq20 (by decide) (by decide) c a w h) (Or.inl ⟨by rfl, by intro W hSw; go_simp⟩) (by assumption) ?_
    (try simp only [Act.put, List.setIfInBounds_toArray, List.set_cons_zero, List.set_cons_succ])
    have Y2 := Y1
    clear HL Y1
    obtain ⟨c0, f0, c1, f1, c2, f2, c3, f3, c4, f4, c5, f5, c6, f6⟩ := cells7 Y2.out.x
    have hlx := lt_of_block Y2.out.x
    refine wpAnyH_ready (rs := [9]) (by kernel_rfl) (by simp) ?_
    refine AllReadyH.cons (List.getElem?_toArray.trans rfl) (fun K hK => ?_) AllReadyH.nil
    go_simp
    clear hlx
    have Y3 := Lib.hid Y2.out.row
    refine hK.out _ _ Y3.out (fun hHeld => ?_)
    clear hK K
    (try simp only [Act.put, List.setIfInBounds_toArray, List.set_cons_zero, List.set_cons_succ])
    clear Y2 c0 f0 c1 f1 c2 f2 c3 f3 c4 f4 c5 f5 c6 f6
    generalize (((((((u1.setCell ⟨w.heap.size, 0, none⟩ (.int .i64 2)).setCell ⟨w.heap.size, 1, none⟩ (.int .u64 tk)).setCell ⟨w.heap.size, 2, none⟩ (.int .i64 n1)).setCell ⟨w.heap.size, 3, none⟩ (.int .i64 pf)).setCell ⟨w.heap.size, 4, none⟩ (.int .i64 n2)).setCell ⟨w.heap.size, 5, none⟩ (.int .i64 0)).setCell ⟨w.heap.size, 6, none⟩ (.slice none 0 0)) = U7 at *
    obtain ⟨v8, hv8⟩ := Y3.out.i
    obtain ⟨d0, e0⟩ := cells1 hv8
    refine wpAnyH_ready (rs := [10]) (by kernel_rfl) (by simp) ?_
    refine AllReadyH.cons (List.getElem?_toArray.trans rfl) (fun K hK => ?_) AllReadyH.nil
    go_simp
    have Y4 := Lib.hid (Y3.out.set (.bool false))
    have Y5 := Lib.hid (Y3.out.set_i (.bool false))
    refine hK.out _ _ Y4.out (fun hHeld => ?_)
    clear hK K
    (try simp only [Act.put, List.setIfInBounds_toArray, List.set_cons_zero, List.set_cons_succ])
    refine wpAnyH_done (by kernel_rfl) ?_ _
    clear hv8 d0 e0 Y3
    generalize (U7.setCell ⟨w.heap.size + 1, 0, none⟩ (.bool false)) = U8 at *
    go_wp2_with fail
    exact LV.out _ _ rfl rfl Y4.out Y5.out
  · skip
    refine wpAnyH_take (i := 3) (v := .bool true) (List.getElem?_toArray.trans rfl) (by kernel_rfl) (by kernel_rfl) (by kernel_rfl) (fun c a w h => hq20 (by decide) (by decide) c a w h) (Or.inl ⟨by rfl, by intro W hSw; go_simp⟩) (by assumption) ?_
    (try simp only [Act.put, List.setIfInBounds_toArray, List.set_cons_zero, List.set_cons_succ])
    simp only [Bool.true_and] at LV
    have HL2 := Lib.hid (HL.out rfl)
    refine wpAnyH_take (i := 4) (v := .agg #[(.int .i64 2), (.int .u64 tk), (.int .i64 n1), (.int .i64 pf), (.int .i64 n2), (.int .i64 0), (.slice none 0 0)]) (List.getElem?_toArray.trans rfl) (by kernel_rfl) (by kernel_rfl) (by kernel_rfl) (fun c a w h => hq20 (by decide) (by decide) c a w h) (Or.inl ⟨by rfl, by intro W hSw; obtain ⟨c0, f0, c1, f1, c2, f2, c3, f3, c4, f4, c5, f5, c6, f6⟩ := cells7 hSw.x; clear hSw; go_simp⟩) (by assumption) ?_
    (try simp only [Act.put, List.setIfInBounds_toArray, List.set_cons_zero, List.set_cons_succ])
    refine wpAnyH_take (i := 6) (v := .string s) (List.getElem?_toArray.trans rfl) (by kernel_rfl) (by kernel_rfl) (by kernel_rfl) (fun c a w h => hq20 (by decide) (by decide) c a w h) (Or.inl ⟨by rfl, by intro W hSw; go_simp⟩) (by assumption) ?_
    (try simp only [Act.put, List.setIfInBounds_toArray, List.set_cons_zero, List.set_cons_succ])
    refine wpAnyH_ready (rs := [5]) (by kernel_rfl) (by simp) ?_
    refine AllReadyH.cons (List.getElem?_toArray.trans rfl) (fun K hK => ?_) AllReadyH.nil
    go_simp
    go_at_call 30
    refine (HL2.out _ Y1.out).mono ?_
    rintro e u2 ⟨rfl, c2⟩
    have Y2 : Hid (XK w u2 (.int .i64 2) (.int .u64 tk) (.int .i64 n1) (.int .i64 pf) (.int .i64 n2) (.int .i64 0) (.slice none 0 0) []) := Lib.hid (Y1.out.below c2)
    clear c2
    refine hK.out _ _ Y2.out (fun hHeld => ?_)
    clear hK K
    (try simp only [Act.put, List.setIfInBounds_toArray, List.set_cons_zero, List.set_cons_succ])
    refine wpAnyH_take (i := 7) (v := .bool bb) (List.getElem?_toArray.trans rfl) (by kernel_rfl) (by kernel_rfl) (by kernel_rfl) (fun c a w h => hq20 (by decide) (by decide) c a w h) (Or.inl ⟨by rfl, by intro W hSw; rw [← hb]; go_simp⟩) (by assumption) ?_
    (try simp only [Act.put, List.setIfInBounds_toArray, List.set_cons_zero, List.set_cons_succ])
    refine wpAnyH_take (i := 8) (v := .bool bb) (List.getElem?_toArray.trans rfl) (by kernel_rfl) (by kernel_rfl) (by kernel_rfl) (fun c a w h => hq20 (by decide) (by decide) c a w h) (Or.inl ⟨by rfl, by intro W hSw; go_simp⟩) (by assumption) ?_
    (try simp only [Act.put, List.setIfInBounds_toArray, List.set_cons_zero, List.set_cons_succ])
    clear HL Y1
    obtain ⟨c0, f0, c1, f1, c2, f2, c3, f3, c4, f4, c5, f5, c6, f6⟩ := cells7 Y2.out.x
    have hlx := lt_of_block Y2.out.x
    refine wpAnyH_ready (rs := [9]) (by kernel_rfl) (by simp) ?_
    refine AllReadyH.cons (List.getElem?_toArray.trans rfl) (fun K hK => ?_) AllReadyH.nil
    go_simp
    clear hlx
    have Y3 := Lib.hid Y2.out.row
    refine hK.out _ _ Y3.out (fun hHeld => ?_)
    clear hK K
    (try simp only [Act.put, List.setIfInBounds_toArray, List.set_cons_zero, List.set_cons_succ])
    clear Y2 c0 f0 c1 f1 c2 f2 c3 f3 c4 f4 c5 f5 c6 f6
    generalize (((((((u2.setCell ⟨w.heap.size, 0, none⟩ (.int .i64 2)).setCell ⟨w.heap.size, 1, none⟩ (.int .u64 tk)).setCell ⟨w.heap.size, 2, none⟩ (.int .i64 n1)).setCell ⟨w.heap.size, 3, none⟩ (.int .i64 pf)).setCell ⟨w.heap.size, 4, none⟩ (.int .i64 n2)).setCell ⟨w.heap.size, 5, none⟩ (.int .i64 0)).setCell ⟨w.heap.size, 6, none⟩ (.slice none 0 0)) = U7 at *
    obtain ⟨v8, hv8⟩ := Y3.out.i
    obtain ⟨d0, e0⟩ := cells1 hv8
    refine wpAnyH_ready (rs := [10]) (by kernel_rfl) (by simp) ?_
    refine AllReadyH.cons (List.getElem?_toArray.trans rfl) (fun K hK => ?_) AllReadyH.nil
    go_simp
    have Y4 := Lib.hid (Y3.out.set (.bool bb))
    have Y5 := Lib.hid (Y3.out.set_i (.bool bb))
    refine hK.out _ _ Y4.out (fun hHeld => ?_)
    clear hK K
    (try simp only [Act.put, List.setIfInBounds_toArray, List.set_cons_zero, List.set_cons_succ])
    refine wpAnyH_done (by kernel_rfl) ?_ _
    clear hv8 d0 e0 Y3
    generalize (U7.setCell ⟨w.heap.size + 1, 0, none⟩ (.bool bb)) = U8 at *
    go_wp2_with fail
    exact LV.out _ _ rfl rfl Y4.out Y5.out

end Go.Proofs.YtbanfkpfijcmcaaGreatDoor
