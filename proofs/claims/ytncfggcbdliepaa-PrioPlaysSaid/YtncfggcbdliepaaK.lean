/- Put. -/
import Derived.Test.YtncfggcbdliepaaJ
import Derived.Deep.AppendLies
namespace Go.Proofs.Ytncfggcbdliepaa
open Go.RowKit
set_option linter.unusedSimpArgs false
set_option linter.unusedVariables false
set_option maxRecDepth 100000

set_option maxHeartbeats 2000000 in
theorem Put_bad (w : World) (g : Nat) (S : Nat → Prop) (N m : Nat) (L : List It) (pr x f c : Int) (h : Qw w g S N m L) (hb : ¬ (0 ≤ pr ∧ pr < m) ∨ x < 0 ∨ f < 0 ∨ c < 0) :
    Calls Try.prog 10 #[.pointer (some ⟨g, 0, none⟩), .int .i64 pr, .int .i64 x, .int .i64 f, .int .i64 c] w fun e w' => e = .returned (.int .i64 2) ∧ w = w' := by
  have MA := Lib.hid (Many_any w g S N m L h)
  have hm8 := h.m8
  have hm0 : ((m : Int) == 0) = false := by simp; omega
  by_cases h1 : 0 ≤ pr ∧ pr < m
  case' neg =>
    have IS := Lib.hid (is_any w g S N m L pr h false (by simpa using h1))
  case' pos =>
    have IS := Lib.hid (is_any w g S N m L pr h true (by simpa using h1))
    by_cases h2 : x < 0
    case' neg =>
      have h2 : 0 ≤ x := by omega
      by_cases h3 : f < 0
      case' neg =>
        have h3 : 0 ≤ f := by omega
        have h4 : c < 0 := by omega
  all_goals
    clear h hb h1
    go_enter Try.func10, Try.ntmps10
    go_wp2_with (first | (go_at_call 26; refine MA.out.mono ?_; rintro e w1 ⟨rfl, rfl⟩) | (go_at_call 28; refine IS.out.mono ?_; rintro e w1 ⟨rfl, rfl⟩))
    go_ret
    exact ⟨rfl, rfl⟩

theorem put_map {L : List It} {D : DataW Unit} (hD : Maps.IsMap D) (t : It) (hn : look L t.id = none) (hd : ∀ y, (Lit.int .i64 y).wf = true → Maps.has D (.int .i64 y) = (look L y).isSome) (ad : ∀ y t, look L y = some t → D.atKey (.int .i64 y) (.lit (.int .i64 0)) = .lit (.int .i64 t.pr)) :
    (∀ y, (Lit.int .i64 y).wf = true → Maps.has (D.put (.int .i64 t.id) (.lit (.int .i64 t.pr))) (.int .i64 y) = (look (L ++ [t]) y).isSome) ∧ (∀ y s, look (L ++ [t]) y = some s → (D.put (.int .i64 t.id) (.lit (.int .i64 t.pr))).atKey (.int .i64 y) (.lit (.int .i64 0)) = .lit (.int .i64 s.pr)) := by
  have key : ∀ y, y ≠ t.id → (Lit.int .i64 y) ≠ Lit.int .i64 t.id := fun y h e => h (by injection e)
  refine ⟨fun y hy => ?_, fun y s hs => ?_⟩
  · rw [look_snoc L t y hn]
    by_cases h : y = t.id
    · subst h; rw [if_pos rfl, Maps.has_put_same hD (show Go.WideAt.IsKeyLit (.int .i64 t.id) from trivial)]; rfl
    · rw [if_neg h, Maps.has_put_other (key y h)]; exact hd y hy
  · rw [look_snoc L t y hn] at hs
    by_cases h : y = t.id
    · rw [if_pos h] at hs; injection hs with hs
      subst h; rw [← hs]
      exact Maps.atKey_put_same hD (show Go.WideAt.IsKeyLit (.int .i64 t.id) from trivial) _ _
    · rw [if_neg h] at hs
      rw [Maps.atKey_put_other (key y h)]; exact ad y s hs

theorem row_snoc_same (L : List It) (t : It) : row (L ++ [t]) t.pr = row L t.pr ++ [t] := by rw [row_append, row_one, if_pos rfl]
theorem row_snoc_other (L : List It) (t : It) {q : Int} (h : q ≠ t.pr) : row (L ++ [t]) q = row L q := by rw [row_append, row_one, if_neg (fun e => h e.symm), List.append_nil]

set_option maxHeartbeats 4000000 in
theorem put_new (w : World) (g : Nat) (S : Nat → Prop) (N m : Nat) (L : List It) (p : Nat) (x f c : Int) (h : Qw w g S N m L) (hN : N ≤ 10000) (hp : p < m) (hx0 : 0 ≤ x) (hx1 : x ≤ 9223372036854775807) (hf0 : 0 ≤ f) (hf1 : f ≤ 9223372036854775807) (hc0 : 0 ≤ c) (k : Int) (hk : (if 2147483647 < c then 2147483647 else c) = k) (hk2 : k = capc c) (hl : look L x = none) :
    Calls Try.prog 10 #[.pointer (some ⟨g, 0, none⟩), .int .i64 p, .int .i64 x, .int .i64 f, .int .i64 c] w fun e w' => e = .returned (.int .i64 0) ∧ ∃ S', Qw w' g S' (N + 1) m (L ++ [⟨x, f, k, p⟩]) ∧ Stp S w S' w' := by
  obtain ⟨i35, hi0, hz0, hz1, hz2⟩ := info_parts info35
  have I35 := Lib.hid hi0; have Z35 := Lib.hid hz0; have S35 := Lib.hid hz1; have Y35 := Lib.hid hz2
  clear hi0 hz0 hz1 hz2
  have hwx := wf64 (x := x) (by omega) hx1
  have MA := Lib.hid (Many_any w g S N m L h)
  have IS := Lib.hid (is_any w g S N m L p h true (by simpa using hp))
  have AT := Lib.hid (at_no w g S N m L x h hwx hl)
  have hm8 := h.m8
  have hm0 : ((m : Int) == 0) = false := by simp; omega
  obtain ⟨lb, mb, D, vs, h, hS⟩ := h
  obtain ⟨v, hv, cv, zv, hrow⟩ := h.cell p hp
  have hg := h.foot_lt (.inl rfl)
  have hlb := h.foot_lt (.inr (.inl rfl))
  obtain ⟨c0, c1⟩ := h.cells
  have hap := h.ar p v
  have hlg : lb ≠ g := h.ap.1
  have hln : (row L p).length ≤ 10000 := by have := row_len L p; have := h.ln; omega
  obtain ⟨A, cc, rfl, hlc, hcm, -⟩ := row_cells hrow
  have H := Lib.hid h; have HS := Lib.hid hS; have HV := Lib.hid hv; have HAP := Lib.hid hap; have HR := Lib.hid hrow; have HL := Lib.hid hl
  have CC := Lib.hid (fun (W : World) (hB : Below w.heap.size w W) => And.intro ((hB.cell (p := ⟨g, 0, none⟩) hg).trans c0) (And.intro ((hB.cell (p := ⟨g, 1, none⟩) hg).trans c1) (And.intro ((hB.cell (p := ⟨lb, p, none⟩) hlb).trans cv) ((hB.frozen (p := ⟨lb, p, none⟩) hlb).trans zv))))
  have hxk := Go.Maps.keyOf_int_mk (P := Try.prog) Try.underlying3 hwx
  have HK2 := Lib.hid hk2; clear hk2
  have HX := Lib.hid hx1; have HF := Lib.hid hf1
  clear h hS hv hap hrow hl c0 c1 cv zv hlc hcm hwx hx1 hf1
  generalize hM : (row L p).length = ln at *
  have HM := Lib.hid hM
  clear hM
  go_enter Try.func10, Try.ntmps10
  go_wp2_with (first | (go_at_call 26; refine MA.out.mono ?_; rintro e w1 ⟨rfl, rfl⟩) | (go_at_call 28; refine IS.out.mono ?_; rintro e w1 ⟨rfl, rfl⟩))
  refine AT.out.mono ?_
  rintro e w1 ⟨rfl, b1⟩
  obtain ⟨d0, d1, d2, d3⟩ := CC.out w1 b1
  have hw1 := b1.size
  have hg1 : g < w1.heap.size := by omega
  have hlb1 : lb < w1.heap.size := by omega
  have B1 := Lib.hid b1
  have R1 := Lib.hid (row_same HR.out (fun b e => b1.block b (HR.out.lt b e).2))
  clear b1 AT MA IS
  have HNE : Hid (∀ b, b = g ∨ b = lb ∨ b = mb → (Value.slice A ln cc).ownBlock ≠ some b) := Lib.hid (fun b hb e => by obtain ⟨h1, h2, h3⟩ := HAP.out b HV.out e; rcases hb with h | h | h; exact h1 h; exact h2 h; exact h3 h)
  have ER : Hid (row (L ++ [⟨x, f, k, p⟩]) (p : Nat) = row L (p : Nat) ++ [⟨x, f, k, p⟩]) := Lib.hid (row_snoc_same L ⟨x, f, k, p⟩)
  go_upto_region 7 with (fail)
  go_cut [] (fun wx => Apd w1 (.slice A ln cc) lb p #[.int .i64 x, .int .i64 f, .int .i64 k] ln (flat (row L p) ++ [.int .i64 x, .int .i64 f, .int .i64 k]) wx)
  case first =>
    go_region_law ((refine step_append_lies _ rfl (.tmp 54) (.tmp 60) 32 rfl 0 35 i35 _ 3 24 Try.underlying32 I35.out Z35.out S35.out Y35.out rfl (by omega) (.slice A ln cc) ln (flat (row L p)) (by simp [Act.eval, Act.put]) (by exact R1.out.alloc _) ⟨w1.heap.size, 0, none⟩ 1 1 [.int .i64 x, .int .i64 f, .int .i64 k] (by simp [Act.eval, Act.put]) (by rfl) (World.news_of_block (cs := #[.int .i64 x, .int .i64 f, .int .i64 k]) (t := 35) (fr := (0, 0)) (by exact new_block _ _)) (by simp [Value.oneCell']) (by omega) (by unfold maxLen; omega) (by omega) (Nat.zero_le _) (w1.heap.size + 1) (by simp) ?_; intro gg cap w2 own2 gr2 at2 lt2; have GR : Hid (World.grownBy (w1.alloc (.cells #[.int .i64 x, .int .i64 f, .int .i64 k] 35)) w2 _) := Lib.hid (by first | exact gr2 | exact grown_undrew gr2); have OW := Lib.hid own2; have AT := Lib.hid at2; clear own2 gr2 at2; have y0 := (far_row GR.out (by exact d0) (by exact HNE.out g (.inl rfl))).1; have y2 := far_row GR.out (by exact d2) (by exact HNE.out lb (.inr (.inl rfl))); obtain ⟨y2, z2⟩ := y2; have z2 := z2.trans (by exact d3)))
    all_goals (go_wp2_with fail; go_meet; exact ⟨gg, cap, w2, rfl, GR.out, OW.out, AT.out⟩)
  case rest =>
    obtain ⟨gg, cap, w2, rfl, gr, ow, at'⟩ := hcut
    have GR := Lib.hid gr; have OW := Lib.hid ow; have AT := Lib.hid at'
    clear gr ow at'
    have y1 := (far_row GR.out d1 (HNE.out g (.inl rfl))).1
    have MP : Hid (w2.ownsMap Try.prog 3 (plainElem Try.prog 3) mb N D) := Lib.hid (map_same H.out.mp ((GR.out.block mb (by have := H.out.mp.lt; simp; omega) (fun e => HNE.out mb (.inr (.inr rfl)) e.symm)).trans ((Below.heap_alloc _ _ _ (by have := H.out.mp.lt; omega)).trans (B1.out.block mb H.out.mp.lt))))
    have hlm : mb ≠ lb := fun e => H.out.ap.2.2 e.symm
    have G1 := Lib.hid (grown_trans (grown_of_below B1.out (Value.slice A ln cc).ownBlock) (grown_trans (grown_alloc _ _ _) GR.out))
    have L2 := Lib.hid ((GR.out.block lb (by simp; omega) (fun e => HNE.out lb (.inr (.inl rfl)) e.symm)).trans ((Below.heap_alloc _ _ _ hlb1).trans ((B1.out.block lb hlb).trans H.out.l)))
    go_wp2_with (at_mapUpdate; refine wpList_mapUpdate_own _ rfl _ _ _ 63 rfl 3 3 key3 Try.underlying63 (plainElem Try.prog 3) mb N D rfl (MP.out.setCell (by exact hlm) _) (by unfold maxLen; omega) _ _ _ rfl rfl hxk (.lit (.int .i64 p)) [] (plainElem_int Try.underlying3 (wf64 (by omega) (by omega))) ?_; intro w4 m4 g4)
    go_ret
    obtain ⟨hd', ad'⟩ := put_map H.out.mp.isMap ⟨x, f, k, p⟩ HL.out H.out.hd H.out.ad
    refine ⟨rfl, turn H.out HS.out p _ _ HV.out G1.out ?_ (fun b' e => ?_) (grown_set _ _ _ _) (by have := set_block L2.out p (.slice (some ⟨gg, 0, none⟩) (ln + 1) cap); rw [List.setIfInBounds_toArray] at this; exact this) g4 m4 (fun q hq => row_snoc_other L _ (by simp; omega)) hd' ad' (H.out.ok.snoc _ (look_none.1 HL.out) ⟨hx0, HX.out, hf0, HF.out, by rw [HK2.out]; exact (capc_b hc0).1, by rw [HK2.out]; exact (capc_b hc0).2, by simp, by simp; omega⟩) (by have := H.out.ln; simp; omega)⟩
    · rw [ER.out, List.length_append, flat_append, HM.out]
      exact OW.out
    · have e2 : gg = b' := by simpa [Value.ownBlock] using e
      subst e2
      rcases AT.out with h | h
      · exact .inl h
      · exact .inr (by omega)
theorem Put_new (w : World) (g : Nat) (S : Nat → Prop) (N m : Nat) (L : List It) (p : Nat) (x f c : Int) (h : Qw w g S N m L) (hN : N ≤ 10000) (hp : p < m) (hx0 : 0 ≤ x) (hx1 : x ≤ 9223372036854775807) (hf0 : 0 ≤ f) (hf1 : f ≤ 9223372036854775807) (hc0 : 0 ≤ c) (hl : look L x = none) :
    Calls Try.prog 10 #[.pointer (some ⟨g, 0, none⟩), .int .i64 p, .int .i64 x, .int .i64 f, .int .i64 c] w fun e w' => e = .returned (.int .i64 0) ∧ ∃ S', Qw w' g S' (N + 1) m (L ++ [⟨x, f, capc c, p⟩]) ∧ Stp S w S' w' :=
  put_new w g S N m L p x f c h hN hp hx0 hx1 hf0 hf1 hc0 (capc c) (capc_eq c) rfl hl
end Go.Proofs.Ytncfggcbdliepaa
