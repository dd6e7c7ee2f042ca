/- Move to another priority. -/
import Derived.Test.YtncfggcbdliepaaN
namespace Go.Proofs.Ytncfggcbdliepaa
open Go.RowKit
set_option linter.unusedSimpArgs false
set_option linter.unusedVariables false
set_option maxRecDepth 100000

set_option maxHeartbeats 8000000 in
theorem Move_go (w : World) (g : Nat) (S : Nat → Prop) (N m : Nat) (L : List It) (t : It) (q : Nat) (h : Qw w g S N m L) (hN : N ≤ 10000) (ht : t ∈ L) (hq : q < m) (hne : t.pr ≠ q) :
    Calls Try.prog 17 #[.pointer (some ⟨g, 0, none⟩), .int .i64 t.id, .int .i64 q] w fun e w' => e = .returned (.int .i64 0) ∧ ∃ S', Qw w' g S' (N + 1) m (cutL L t.id ++ [⟨t.id, t.fl, t.ct, q⟩]) ∧ Stp S w S' w' := by
  obtain ⟨i35, hi0, hz0, hz1, hz2⟩ := info_parts info35
  have I35 := Lib.hid hi0; have Z35 := Lib.hid hz0; have S35 := Lib.hid hz1; have Y35 := Lib.hid hz2
  clear hi0 hz0 hz1 hz2
  have MA := Lib.hid (Many_any w g S N m L h)
  have hb := h.ok.b t ht
  have hwx := wf64 (x := t.id) (by omega) hb.2.1
  have hlk := look_mem h.ok ht
  have HA := Lib.hid (Has_yes w g S N m L t.id t h hwx hlk)
  have hm8 := h.m8
  have hm0 : ((m : Int) == 0) = false := by simp; omega
  have IS := Lib.hid (fun (W : World) (hB : Below w.heap.size w W) => is_any W g S N m L q (h.below hB) true (by simp; omega))
  have CU := Lib.hid (fun (W : World) (hB : Below w.heap.size w W) => Cut_yes W g S N m L t.id t (h.below hB) (by omega) hwx hlk)
  have hxk := Go.Maps.keyOf_int_mk (P := Try.prog) Try.underlying3 hwx
  have hnn : (t.pr != (q : Int)) = true := by simpa using hne
  have HQ := Lib.hid h; have HB := Lib.hid hb
  have HLK := Lib.hid (show look (cutL L t.id) t.id = none by rw [look_cut, if_pos rfl])
  clear h ht hb hwx hlk hne
  obtain ⟨ti, tf, tc, tp⟩ := t
  simp only at HA CU hxk hnn HB HLK ⊢
  go_enter Try.func17, Try.ntmps17
  go_wp2_with (go_at_call 26; refine MA.out.mono ?_; rintro e w1 ⟨rfl, rfl⟩)
  refine HA.out.mono ?_
  rintro e w1 ⟨rfl, b1⟩
  have hw1 := b1.size
  have B1 := Lib.hid b1
  clear b1 MA HA
  go_wp2_with fail
  obtain ⟨W1, hW1⟩ : ∃ W1, W1 = w1.alloc (.cells #[.int .i64 ti, .int .i64 tf, .int .i64 tc] 35) := ⟨_, rfl⟩
  have BW : Hid (Below w.heap.size w W1) := Lib.hid (by rw [hW1]; exact B1.out.alloc hw1 _)
  have K1 : Hid (W1.heap[w1.heap.size]? = some (.cells #[.int .i64 ti, .int .i64 tf, .int .i64 tc] 35 (0, 0))) := Lib.hid (by rw [hW1]; exact new_block _ _)
  rw [← hW1]
  clear hW1
  refine (IS.out _ BW.out).mono ?_
  rintro e w2 ⟨rfl, rfl⟩
  go_wp2_with fail
  refine (CU.out _ BW.out).mono ?_
  rintro e w2 ⟨rfl, S2, h2, st2⟩
  have hxb : ¬ S w1.heap.size := fun hs => by have := HQ.out.lt hs; omega
  have K2 := (st2.f.block _ (lt_of_block K1.out) hxb).trans K1.out
  have ST2 := Lib.hid st2
  have hxs2 : ¬ S2 w1.heap.size := fun hs => by
    rcases st2.s _ hs with h | h
    · exact hxb h
    · have := lt_of_block K1.out; omega
  have hxl := lt_of_block K2
  have hc := cell_of K2
  have x0 := (hc 0).1; have x1 := (hc 1).1; have x2 := (hc 2).1
  simp at x0 x1 x2
  clear hc K1 st2 IS CU
  obtain ⟨lb, mb, D, vs, h, hS⟩ := h2
  obtain ⟨v, hv, cv, zv, hrow⟩ := h.cell q hq
  have hg := h.foot_lt (.inl rfl)
  have hlb := h.foot_lt (.inr (.inl rfl))
  obtain ⟨d0, d1⟩ := h.cells
  have hap := h.ar q v
  have hlg : lb ≠ g := h.ap.1
  have hln : (row (cutL L ti) q).length ≤ 10000 := by have := row_len (cutL L ti) q; have := h.ln; omega
  obtain ⟨A, cc, rfl, hlc, hcm, -⟩ := row_cells hrow
  have H := Lib.hid h; have HS := Lib.hid hS; have HV := Lib.hid hv; have HAP := Lib.hid hap; have HR := Lib.hid hrow
  have HXB : Hid ((Value.slice A (row (cutL L ti) q).length cc).ownBlock ≠ some w1.heap.size) := Lib.hid (fun e => hxs2 ((hS _).2 (.inr (.inr (.inr ⟨_, List.mem_of_getElem? hv, e⟩)))))
  clear h hS hv hap hrow hlc hcm hxs2 hxb K2
  have HNE : Hid (∀ b, b = g ∨ b = lb ∨ b = mb → (Value.slice A (row (cutL L ti) q).length cc).ownBlock ≠ some b) := Lib.hid (fun b hb e => by obtain ⟨h1, h2, h3⟩ := HAP.out b HV.out e; rcases hb with h | h | h; exact h1 h; exact h2 h; exact h3 h)
  have ER : Hid (row (cutL L ti ++ [⟨ti, tf, tc, q⟩]) (q : Nat) = row (cutL L ti) (q : Nat) ++ [⟨ti, tf, tc, q⟩]) := Lib.hid (row_snoc_same (cutL L ti) ⟨ti, tf, tc, q⟩)
  generalize hM : (row (cutL L ti) q).length = ln at *
  have HM := Lib.hid hM
  clear hM
  go_upto_region 8 with (fail)
  go_cut [] (fun wx => Apd w2 (.slice A ln cc) lb q #[.int .i64 ti, .int .i64 tf, .int .i64 tc] ln (flat (row (cutL L ti) q) ++ [.int .i64 ti, .int .i64 tf, .int .i64 tc]) wx)
  case first =>
    go_region_law ((refine step_append_lies _ rfl (.tmp 45) (.tmp 47) 32 rfl 0 35 i35 _ 3 24 Try.underlying32 I35.out Z35.out S35.out Y35.out rfl (by omega) (.slice A ln cc) ln (flat (row (cutL L ti) q)) (by simp [Act.eval, Act.put]) (by exact HR.out.alloc _) ⟨w2.heap.size, 0, none⟩ 1 1 [.int .i64 ti, .int .i64 tf, .int .i64 tc] (by simp [Act.eval, Act.put]) (by rfl) (World.news_of_block (cs := #[.int .i64 ti, .int .i64 tf, .int .i64 tc]) (t := 35) (fr := (0, 0)) (by exact new_block _ _)) (by simp [Value.oneCell']) (by omega) (by unfold maxLen; omega) (by omega) (Nat.zero_le _) (w2.heap.size + 1) (by simp) ?_; intro gg cap w3 own2 gr2 at2 lt2; have GR : Hid (World.grownBy (w2.alloc (.cells #[.int .i64 ti, .int .i64 tf, .int .i64 tc] 35)) w3 _) := Lib.hid (by first | exact gr2 | exact grown_undrew gr2); have OW := Lib.hid own2; have AT := Lib.hid at2; clear own2 gr2 at2; have y0 := (far_row GR.out (by exact d0) (by exact HNE.out g (.inl rfl))).1; have y2 := far_row GR.out (by exact cv) (by exact HNE.out lb (.inr (.inl rfl))); obtain ⟨y2, z2⟩ := y2; have z2 := z2.trans (by exact zv)))
    all_goals (go_wp2_with fail; go_meet; exact ⟨gg, cap, w3, rfl, GR.out, OW.out, AT.out⟩)
  case rest =>
    obtain ⟨gg, cap, w3, rfl, gr, ow, at'⟩ := hcut
    have GR := Lib.hid gr; have OW := Lib.hid ow; have AT := Lib.hid at'
    clear gr ow at'
    have y1 := (far_row GR.out d1 (HNE.out g (.inl rfl))).1
    have MP : Hid (w3.ownsMap Try.prog 3 (plainElem Try.prog 3) mb N D) := Lib.hid (map_same H.out.mp ((GR.out.block mb (by have := H.out.mp.lt; simp; omega) (fun e => HNE.out mb (.inr (.inr rfl)) e.symm)).trans (Below.heap_alloc _ _ _ H.out.mp.lt)))
    have hlm : mb ≠ lb := fun e => H.out.ap.2.2 e.symm
    have G1 := Lib.hid (grown_trans (grown_alloc w2 (.cells #[.int .i64 ti, .int .i64 tf, .int .i64 tc] 35) _) GR.out)
    have L2 := Lib.hid ((GR.out.block lb (by simp; omega) (fun e => HNE.out lb (.inr (.inl rfl)) e.symm)).trans ((Below.heap_alloc _ _ _ hlb).trans H.out.l))
    go_wp2_with (at_mapUpdate; refine wpList_mapUpdate_own _ rfl _ _ _ 63 rfl 3 3 key3 Try.underlying63 (plainElem Try.prog 3) mb N D rfl (MP.out.setCell (by exact hlm) _) (by unfold maxLen; omega) _ _ _ rfl rfl hxk (.lit (.int .i64 q)) [] (plainElem_int Try.underlying3 (wf64 (by omega) (by omega))) ?_; intro w4 m4 g4)
    go_ret
    obtain ⟨b1, b2, b3, b4, b5, b6, b7, b8⟩ := HB.out
    obtain ⟨hd', ad'⟩ := put_map H.out.mp.isMap ⟨ti, tf, tc, q⟩ HLK.out H.out.hd H.out.ad
    obtain ⟨S', q', st⟩ := turn H.out HS.out q _ _ HV.out G1.out (by rw [ER.out, List.length_append, flat_append, HM.out]; exact OW.out) (fun b' e => by
        have e2 : gg = b' := by simpa [Value.ownBlock] using e
        subst e2
        rcases AT.out with h | h
        · exact .inl h
        · exact .inr (by omega)) (grown_set _ _ _ _) (by have := set_block L2.out q (.slice (some ⟨gg, 0, none⟩) (ln + 1) cap); rw [List.setIfInBounds_toArray] at this; exact this) g4 m4 (fun r hr => row_snoc_other _ _ (by simp; omega)) hd' ad' (H.out.ok.snoc _ (look_none.1 HLK.out) ⟨b1, b2, b3, b4, b5, b6, by simp, by simp; omega⟩) (by have := H.out.ln; simp; omega)
    exact ⟨rfl, S', q', ((Stp.of_below ⟨BW.out.os, BW.out.tape, BW.out.output, BW.out.size, BW.out.block⟩).trans ST2.out).trans st⟩
end Go.Proofs.Ytncfggcbdliepaa
