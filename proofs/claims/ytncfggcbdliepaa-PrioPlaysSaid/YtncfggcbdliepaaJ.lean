/- Cut. -/
import Derived.Test.YtncfggcbdliepaaI
namespace Go.Proofs.Ytncfggcbdliepaa
open Go.RowKit
set_option linter.unusedSimpArgs false
set_option linter.unusedVariables false
set_option maxRecDepth 100000

theorem cut_map {L : List It} {D : DataW Unit} (x : Int) (hd : ∀ y, (Lit.int .i64 y).wf = true → Maps.has D (.int .i64 y) = (look L y).isSome) (ad : ∀ y t, look L y = some t → D.atKey (.int .i64 y) (.lit (.int .i64 0)) = .lit (.int .i64 t.pr)) :
    (∀ y, (Lit.int .i64 y).wf = true → Maps.has (D.del (.int .i64 x)) (.int .i64 y) = (look (cutL L x) y).isSome) ∧ (∀ y t, look (cutL L x) y = some t → (D.del (.int .i64 x)).atKey (.int .i64 y) (.lit (.int .i64 0)) = .lit (.int .i64 t.pr)) := by
  have key : ∀ y, y ≠ x → (Lit.int .i64 y) ≠ Lit.int .i64 x := fun y h e => h (by injection e)
  refine ⟨fun y hy => ?_, fun y t ht => ?_⟩
  · rw [look_cut]
    by_cases h : y = x
    · subst h; rw [if_pos rfl, Maps.has_del_same]; rfl
    · rw [if_neg h, Maps.has_del_other (key y h)]; exact hd y hy
  · rw [look_cut] at ht
    by_cases h : y = x
    · rw [if_pos h] at ht; cases ht
    · rw [if_neg h] at ht
      rw [Maps.atKey_del_other (key y h)]; exact ad y t ht

theorem Cut_no (w : World) (g : Nat) (S : Nat → Prop) (N m : Nat) (L : List It) (x : Int) (h : Qw w g S N m L) (hx : (Lit.int .i64 x).wf = true) (hl : look L x = none) :
    Calls Try.prog 16 #[.pointer (some ⟨g, 0, none⟩), .int .i64 x] w fun e w' => e = .returned (.bool false) ∧ Below w.heap.size w w' := by
  have AT := Lib.hid (at_no w g S N m L x h hx hl)
  clear h hx hl
  go_enter Try.func16, Try.ntmps16
  go_wp2_with fail
  refine AT.out.mono ?_
  rintro e w1 ⟨rfl, b1⟩
  go_wp2_with fail
  go_ret
  exact ⟨rfl, b1⟩

set_option maxHeartbeats 4000000 in
theorem Cut_yes (w : World) (g : Nat) (S : Nat → Prop) (N m : Nat) (L : List It) (x : Int) (t : It) (h : Qw w g S N m L) (hN : N ≤ 100000) (hx : (Lit.int .i64 x).wf = true) (hl : look L x = some t) :
    Calls Try.prog 16 #[.pointer (some ⟨g, 0, none⟩), .int .i64 x] w fun e w' => e = .returned (.bool true) ∧ ∃ S', Qw w' g S' N m (cutL L x) ∧ Stp S w S' w' := by
  have AT := Lib.hid (at_yes w g S N m L x t h hx hl)
  obtain ⟨p0, p1, p2, p3⟩ := spot h.ok hl
  obtain ⟨lb, mb, D, vs, h, hS⟩ := h
  obtain ⟨htm, rfl⟩ := look_some hl
  obtain ⟨p, hp⟩ := Int.eq_ofNat_of_zero_le p0
  have hrs := row_cut_same h.ok htm
  have hro : ∀ q : Nat, q ≠ p → row (cutL L t.id) q = row L q := fun q hq => row_cut_other h.ok htm (by rw [hp]; omega)
  rw [hp] at p1 p2 p3 AT hrs
  have hpm : p < m := by omega
  obtain ⟨v, hv, cv, zv, hrow⟩ := h.cell p hpm
  have hm8 := h.m8.2
  have hg := h.foot_lt (.inl rfl)
  have hlb := h.foot_lt (.inr (.inl rfl))
  obtain ⟨c0, c1⟩ := h.cells
  have hap := h.ar p v
  have DE := Lib.hid (fun (W : World) (hb : Below w.heap.size w W) => Delete_any v (row L p) (plc (row L p) t.id) W (row_same hrow (fun b e => hb.block b (hrow.lt b e).2)) p2)
  rw [← hrs] at DE
  have hpl : plc (row L p) t.id ≤ 100000 := by have := row_len L p; have := h.ln; omega
  obtain ⟨A, c, rfl, hlc, hcm, -⟩ := row_cells hrow
  have hlg : lb ≠ g := h.ap.1
  have H := Lib.hid h; have HS := Lib.hid hS; have HV := Lib.hid hv; have HRO := Lib.hid hro; have HAP := Lib.hid hap
  have CC := Lib.hid (fun (W : World) (hB : Below w.heap.size w W) => And.intro ((hB.cell (p := ⟨g, 0, none⟩) hg).trans c0) (And.intro ((hB.cell (p := ⟨g, 1, none⟩) hg).trans c1) (And.intro ((hB.cell (p := ⟨lb, p, none⟩) hlb).trans cv) ((hB.frozen (p := ⟨lb, p, none⟩) hlb).trans zv))))
  have hxk := Go.Maps.keyOf_int_mk (P := Try.prog) Try.underlying3 hx
  clear h hS hv hrs hro hap hrow hl htm p3 p0 hp c0 c1 cv zv hx hlc hcm
  obtain ⟨ti, tf, tc, tp⟩ := t
  simp only at AT DE hpl HRO hxk p2 ⊢
  generalize plc (row L p) ti = i at *
  generalize hM : (row (cutL L ti) p).length = n2 at DE
  have HM := Lib.hid hM
  clear hM
  generalize (row L p).length = ln at *
  go_enter Try.func16, Try.ntmps16
  go_wp2_with fail
  refine AT.out.mono ?_
  rintro e w1 ⟨rfl, b1⟩
  obtain ⟨d0, d1, d2, d3⟩ := CC.out w1 b1
  have hw1 := b1.size
  have B1 := Lib.hid b1
  clear b1 AT
  have hi1 : IntKind.i64.wrap ((i : Int) + 1) = (i : Int) + 1 := IntWalk.i64_in _ (by omega)
  go_wp2_with fail
  go_region_with
    (first | (go_at_call 32; refine (DE.out _ (by first | exact B1.out | exact B1.out.drew)).mono ?_; rintro e w2 ⟨v', b, rfl, ov, ov', r2, g2⟩; obtain ⟨A2, c2, rfl, -⟩ := row_form r2; have G2 : Hid (w1.grownBy w2 (some b)) := Lib.hid (by first | exact g2 | exact grown_undrew g2); have R2 := Lib.hid r2; have hb := HAP.out b HV.out ov; have y0 := (far_cell g2 (a := ⟨g, 0, none⟩) (by exact d0) (by exact fun e => hb.1 e.symm)).1; have y1 := (far_cell g2 (a := ⟨g, 1, none⟩) (by exact d1) (by exact fun e => hb.1 e.symm)).1; have y2 := far_cell g2 (a := ⟨lb, p, none⟩) (by exact d2) (by exact fun e => hb.2.1 e.symm); obtain ⟨y2, z2⟩ := y2; have z2 := z2.trans (show _ = false from by exact d3); have OV : Hid (_ = some b) := Lib.hid ov; have OV' : Hid (_ = some b) := Lib.hid ov'; clear g2 r2 ov ov' hb))
  all_goals
    have hb := HAP.out b HV.out OV.out
    have MP : Hid (w2.ownsMap Try.prog 3 (plainElem Try.prog 3) mb N D) := Lib.hid (map_same H.out.mp ((G2.out.block mb (Nat.lt_of_lt_of_le H.out.mp.lt hw1) (fun e => hb.2.2 (by injection e with e; exact e.symm))).trans (B1.out.block mb H.out.mp.lt)))
    have hlm : mb ≠ lb := fun e => H.out.ap.2.2 e.symm
    have G1 := Lib.hid (show w.grownBy w2 (Value.slice A ln c).ownBlock from by rw [OV.out]; exact grown_trans (grown_of_below B1.out _) G2.out)
    have L2 := Lib.hid ((G2.out.block lb (Nat.lt_of_lt_of_le hlb hw1) (fun e => hb.2.1 (by injection e with e; exact e.symm))).trans ((B1.out.block lb hlb).trans H.out.l))
    clear hb
    go_wp2_with (at_delete; refine wpList_delete_own _ rfl _ _ 63 3 rfl 3 key3 Try.underlying63 (plainElem Try.prog 3) mb N D rfl (MP.out.setCell (by exact hlm) _) _ _ rfl hxk ?_; intro w4 m4 t4)
    go_ret
    obtain ⟨hd', ad'⟩ := cut_map ti H.out.hd H.out.ad
    refine ⟨rfl, turn H.out HS.out p _ _ HV.out G1.out (by rw [HM.out]; exact R2.out) (fun b' e => .inl (by rw [OV.out]; rw [OV'.out] at e; exact e)) (grown_set _ _ _ _) (by have := set_block L2.out p (.slice A2 n2 c2); rw [List.setIfInBounds_toArray] at this; exact this) t4.grown m4 HRO.out hd' ad' (H.out.ok.cut ti) (by have := H.out.ln; have := List.length_filter_le (fun t : It => t.id != ti) L; unfold cutL; omega)⟩
end Go.Proofs.Ytncfggcbdliepaa
