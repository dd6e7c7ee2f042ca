/- CutSignal. -/
import Derived.Test.YtllolfbjmpaamaaI
namespace Go.Proofs.Ytllolfbjmpaamaa
open Go.RowKit
set_option linter.unusedSimpArgs false
set_option linter.unusedVariables false
set_option maxRecDepth 100000

theorem CutSignal_bad (w : World) (g : Nat) (S : Nat → Prop) (N : Nat) (L : List It) (x : Int) (h : Qw w g S N L) (hx : (Lit.int .i64 x).wf = true) (hb : look L x = none ∨ (itOf L x).wn ≠ 0) :
    Calls Try.prog 24 #[.pointer (some ⟨g, 0, none⟩), .int .i64 x] w fun e w' => e = .returned (.tuple #[.int .i64 0, .bool false, .int .i64 181]) ∧ Below w.heap.size w w' := by
  have NO := Lib.hid (none_any w g S N L h)
  obtain ⟨mb, D, vs, h, hS⟩ := h
  have hlk := h.look2 hx
  have hc := h.cell0
  clear h hS
  generalize (itOf L x).nu = nu at *
  generalize (itOf L x).wn = wn at *
  rcases hb with hb | hb
  case' inl => rw [hb] at hlk
  case' inr =>
    have hwn : (wn != 0) = true := by simpa using hb
    cases hs : (look L x).isSome
    all_goals rw [hs] at hlk
  all_goals
    clear hb
    go_enter Try.func24, Try.ntmps24
    go_wp2_with (go_at_call 33; refine NO.out.mono ?_; rintro e w1 ⟨rfl, rfl⟩)
    exact bodyPost_ret (v := .tuple #[.int .i64 0, .bool false, .int .i64 181]) (by simp [results, Try.results24, go_sem]) rfl ⟨rfl, (Below.refl _ _).alloc (Nat.le_refl _) _⟩

set_option maxHeartbeats 4000000 in
theorem CutSignal_ok (w : World) (g : Nat) (S : Nat → Prop) (N : Nat) (L : List It) (t : It) (h : Qw w g S N L) (hN : N ≤ 9000) (ht : t ∈ L) (hwn : t.wn = 0) :
    Calls Try.prog 24 #[.pointer (some ⟨g, 0, none⟩), .int .i64 t.id] w fun e w' => e = .returned (.tuple #[.int .i64 t.nu, .bool ((sigL (cutL L t.id) t.nu).length == 0), .int .i64 0]) ∧ ∃ S', Qw w' g S' N (cutL L t.id) ∧ Stp S w S' w' := by
  have hok := h.ok
  have hit := hok.b t ht
  have hx := wf64 hit.lo hit.hi
  have hlk0 := look_mem hok ht
  have hitof : itOf L t.id = t := by unfold itOf; rw [hlk0]; rfl
  obtain ⟨-, hn0, hn1, hpr⟩ := hit.b.resolve_right (fun h => by have := h.1; rw [hwn] at this; unfold MayW at this; omega)
  have NO := Lib.hid (none_any w g S N L h)
  have HLT := Lib.hid (fun b (hb : S b) => h.lt hb)
  have hsl : sigL (cutL L t.id) t.nu = row (cutL L t.id) (t.nu + 96) := by unfold sigL; rw [if_pos ⟨hn0, hn1⟩]
  rw [hsl]
  obtain ⟨k, hk⟩ := Int.eq_ofNat_of_zero_le (show 0 ≤ t.nu by omega)
  rw [hk] at hn0 hn1 hpr ⊢
  obtain ⟨mb, D, vs, h, hS⟩ := h
  obtain ⟨v, hv, cv, zv, hrow⟩ := h.scell k (by omega)
  have hg := h.foot_lt (.inl rfl)
  have c0 := h.cell0
  have hap := h.ar (96 + k) v
  have hlk := h.look2 hx
  rw [hitof, hlk0, hk] at hlk
  have hln : (row L ((k : Int) + 96)).length ≤ 9000 := by have := row_len L ((k : Int) + 96); have := h.ln; omega
  have HWO := Lib.hid (fun (W : World) (hr : W.ownsRow 0 3 1 v (row L ((k : Int) + 96)).length (flat (row L ((k : Int) + 96)))) => without_any v (row L ((k : Int) + 96)) t.id W hr (by omega))
  obtain ⟨A, cc, rfl, hlc, hcm, -⟩ := row_cells hrow
  have hgm : g ≠ mb := fun e => h.ap e.symm
  have H := Lib.hid h; have HS := Lib.hid hS; have HV := Lib.hid hv; have HR := Lib.hid hrow
  have HNE : Hid (∀ b, b = g ∨ b = mb → (Value.slice A (row L ((k : Int) + 96)).length cc).ownBlock ≠ some b) := Lib.hid (fun b hb e => by obtain ⟨h1, h2⟩ := hap b hv e; rcases hb with h | h; exact h1 h; exact h2 h)
  have HT := Lib.hid ht; have HX := Lib.hid hx; have HPR := Lib.hid hpr
  have hk32 : (k : Int) < 32 := by omega
  have hxk := Go.Maps.keyOf_int_mk (P := Try.prog) Try.underlying3 hx
  have hwn' : (t.wn != 0) = false := by simp [hwn]
  have hml := h.foot_lt (.inr (.inl rfl))
  clear h hS hv hap hrow hlc hcm hx hok hit hlk0 hitof hn0 hn1 hpr ht hwn hsl
  obtain ⟨ti, tw, tn, tp⟩ := t
  simp only at hlk hxk hwn' HWO hk HT HX HPR ⊢
  have HK := Lib.hid hk
  clear hk
  generalize hM : (row L ((k : Int) + 96)).length = ln at *
  have HM := Lib.hid hM
  clear hM
  have B1 : Hid (Below w.heap.size w (w.alloc (.cells #[.int .i64 k, .int .i64 tw] 78))) := Lib.hid ((Below.refl _ w).alloc (Nat.le_refl _) _)
  have K1 : Hid ((w.alloc (.cells #[.int .i64 k, .int .i64 tw] 78)).heap[w.heap.size]? = some (.cells #[.int .i64 k, .int .i64 tw] 78 (0, 0))) := Lib.hid (new_block _ _)
  go_enter Try.func24, Try.ntmps24
  go_upto_region 6 with (go_at_call 33; refine NO.out.mono ?_; rintro e w1 ⟨rfl, rfl⟩)
  clear hlk
  generalize w.alloc (.cells #[.int .i64 k, .int .i64 tw] 78) = w1 at *
  generalize hbx : w.heap.size = bx at *
  have HBX := Lib.hid hbx
  clear hbx
  have d0 := (B1.out.cell (p := ⟨g, 0, none⟩) hg).trans c0
  have d1 := (B1.out.cell (p := ⟨g, 97 + k, none⟩) hg).trans cv
  have zd1 := (B1.out.frozen (p := ⟨g, 97 + k, none⟩) hg).trans zv
  have x0 := (cell_of K1.out 0).1
  simp at x0
  have MP : Hid (w1.ownsMap Try.prog 3 plR mb N D) := Lib.hid (map_same H.out.mp (B1.out.block _ hml))
  have HRB : Hid (∀ b, (Value.slice A ln cc).ownBlock = some b → b < bx) := Lib.hid (fun b e => by rw [← HBX.out]; exact (HR.out.lt b e).2)
  have hb1 : bx < w1.heap.size := lt_of_block K1.out
  have hbm : bx ≠ mb := by omega
  clear c0 cv zv
  go_upto_region 7 with (first | (at_delete; refine wpList_delete_own _ rfl _ _ 65 3 rfl 78 key3 Try.underlying65 plR mb N D rfl MP.out _ _ rfl hxk ?_; intro w4 m4 t4; have M4 := Lib.hid m4; have G4 := Lib.hid t4.grown; have R4 : Hid (w4.ownsRow 0 3 1 (.slice A ln cc) ln (flat (row L ((k : Int) + 96)))) := Lib.hid (row_same HR.out (fun b e => (G4.out.block b (Nat.lt_trans (HRB.out b e) hb1) (fun e2 => HNE.out mb (.inr rfl) (by injection e2 with e2; rw [← e2]; exact e))).trans (B1.out.block b (HRB.out b e)))); have x4 := (far_cell G4.out x0 (by exact hbm)).1; have y1 := far_cell G4.out d1 (by exact hgm); obtain ⟨y1, zy1⟩ := y1; have zy1 := zy1.trans zd1; clear m4 t4))
  have hs4 := G4.out.size
  simp only [Act.put]
  go_cut [] (fun wx => Wth w4 g (97 + k) (cutL (row L ((k : Int) + 96)) ti) wx)
  case first =>
    go_region_with (first | (go_at_call 36; refine (HWO.out _ (by exact R4.out)).mono ?_; rintro e w5 ⟨⟨v', rfl, r5⟩, b5⟩; obtain ⟨A5, c5, rfl, -⟩ := row_form r5; have B5 : Hid (Below w4.heap.size w4 w5) := Lib.hid (by first | exact b5 | exact ⟨b5.os, b5.tape, b5.output, b5.size, b5.block⟩); have R5 : Hid (w5.ownsRow w4.heap.size 3 1 _ _ _) := Lib.hid r5; have y0 := (B5.out.cell (p := ⟨bx, 0, none⟩) (cell_lt x4).1).trans x4; have y2 := (B5.out.cell (p := ⟨g, 97 + k, none⟩) (cell_lt y1).1).trans y1; have z2 := (B5.out.frozen (p := ⟨g, 97 + k, none⟩) (cell_lt y1).1).trans zy1; clear r5 b5))
    all_goals (go_wp2_with fail; go_meet; exact ⟨A5, c5, w5, rfl, B5.out, R5.out⟩)
  case rest =>
    obtain ⟨A5, c5, w5, rfl, b5, r5⟩ := hcut
    have B5 := Lib.hid b5; have R5 := Lib.hid r5
    clear b5 r5
    have q5 : w5.heap[g]? = some (.cells (Value.map (some mb) :: vs).toArray 69 (0, 0)) :=
      (B5.out.block g (by omega)).trans ((G4.out.block g (by omega) (fun e => hgm (by injection e))).trans ((B1.out.block g hg).trans H.out.q))
    have F5 : Fr (fun b => (Value.slice A ln cc).ownBlock = some b ∨ b = g ∨ b = mb) w (w5.setCell ⟨g, 97 + k, none⟩ (.slice A5 (cutL (row L ((k : Int) + 96)) ti).length c5)) :=
      (((Fr.of_below (by rw [HBX.out]; exact B1.out)).tr (Fr.of_grown G4.out (fun b e => .inr (.inr (by injection e with e; exact e.symm))))).tr (Fr.of_below B5.out)).tr (Fr.of_grown (grown_set w5 g (97 + k) _) (fun b e => .inr (.inl (by injection e with e; exact e.symm))))
    have hfresh : ∀ b', (Value.slice A5 (cutL (row L ((k : Int) + 96)) ti).length c5).ownBlock = some b' → (Value.slice A ln cc).ownBlock = some b' ∨ w.heap.size ≤ b' := fun b' e => .inr (by have := (R5.out.lt b' e).1; rw [HBX.out]; omega)
    have M5 : (w5.setCell ⟨g, 97 + k, none⟩ (.slice A5 (cutL (row L ((k : Int) + 96)) ti).length c5)).ownsMap Try.prog 3 plR mb N (D.del (.int .i64 ti)) :=
      map_same M4.out ((set_other _ (fun e => hgm e.symm) _ _).trans (B5.out.block mb M4.out.lt))
    have hown5 : (w5.setCell ⟨g, 97 + k, none⟩ (.slice A5 (cutL (row L ((k : Int) + 96)) ti).length c5)).ownsRow 0 3 1 (.slice A5 (cutL (row L ((k : Int) + 96)) ti).length c5) (row (cutL L ti) ((k : Int) + 96)).length (flat (row (cutL L ti) ((k : Int) + 96))) := by
      rw [row_cut]
      exact row_same (row_base R5.out) (fun b e => set_other _ (by have := (R5.out.lt b e).1; omega) _ _)
    have hpr := HPR.out
    have ecast : ((96 + k : Nat) : Int) = (k : Int) + 96 := by omega
    obtain ⟨p1, p2, p3⟩ := cut_map (H.out.mp.tidy key3) H.out.ok ⟨ti, tw, tn, tp⟩ HT.out HX.out H.out.hd H.out.ad H.out.sz
    obtain ⟨S', q', st⟩ := turn H.out HS.out (96 + k) _ _ HV.out F5 (set_splace q5 _) (by rw [ecast]; exact hown5) hfresh M5 (fun r hr => row_cut_other H.out.ok HT.out (by simp only; rw [hpr]; omega)) p1 p2 p3 (H.out.ok.cut ti) (Nat.le_trans (List.length_filter_le _ _) H.out.ln)
    have x6 : (w5.setCell ⟨g, 97 + k, none⟩ (.slice A5 (cutL (row L ((k : Int) + 96)) ti).length c5)).cell? ⟨bx, 0, none⟩ = some (.int .i64 k) := by
      have h1 : (w5.setCell ⟨g, 97 + k, none⟩ (.slice A5 (cutL (row L ((k : Int) + 96)) ti).length c5)).heap[bx]? = w4.heap[bx]? := (set_other _ (by omega) _ _).trans (B5.out.block bx (by omega))
      exact (World.cell?_of_block (a := ⟨bx, 0, none⟩) h1).trans x4
    have hvl : 96 + k < vs.length := by rw [H.out.vl]; omega
    have y6 : (w5.setCell ⟨g, 97 + k, none⟩ (.slice A5 (cutL (row L ((k : Int) + 96)) ti).length c5)).cell? ⟨g, 97 + k, none⟩ = some (.slice A5 (cutL (row L ((k : Int) + 96)) ti).length c5) := by
      rw [(cell_of (set_splace q5 _) (97 + k)).1, show 97 + k = (96 + k) + 1 by omega]
      simp [hvl]
    have Q6 := Lib.hid q'; have ST := Lib.hid st
    clear q' st F5 hfresh M5 hown5 q5 p1 p2 p3 x4 y1 zy1 d0 d1 zd1 x0
    generalize w5.setCell ⟨g, 97 + k, none⟩ (.slice A5 (cutL (row L ((k : Int) + 96)) ti).length c5) = w6 at *
    have hcl : (row (cutL L ti) ((k : Int) + 96)).length = (cutL (row L ((k : Int) + 96)) ti).length := by rw [row_cut]
    have HCL := Lib.hid hcl
    clear hcl
    generalize (cutL (row L ((k : Int) + 96)) ti).length = n5 at *
    have e1 : ((n5 : Int) == 0) = (n5 == 0) := by
      rw [Bool.eq_iff_iff]; simp
    go_upto_region 8 with (fail)
    go_quiet (fail)
    go_wp2_with fail
    refine bodyPost_ret (v := .tuple #[.int .i64 k, .bool (n5 == 0), .int .i64 0]) (by simp [results, Try.results24, go_sem]) rfl ⟨by rw [HCL.out], ?_⟩
    exact ⟨S', Q6.out.below (below_drewN (Below.refl _ _) _), ST.out.trans (Stp.of_below (below_drewN (Below.refl _ _) _))⟩
end Go.Proofs.Ytllolfbjmpaamaa
