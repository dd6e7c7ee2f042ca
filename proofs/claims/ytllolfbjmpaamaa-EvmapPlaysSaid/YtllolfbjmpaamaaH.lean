/- AddSignal. -/
import Derived.Test.YtllolfbjmpaamaaG
namespace Go.Proofs.Ytllolfbjmpaamaa
open Go.RowKit
set_option linter.unusedSimpArgs false
set_option linter.unusedVariables false
set_option maxRecDepth 100000

theorem set_splace {w : World} {g mb p : Nat} {vs : List Value} (h : w.heap[g]? = some (.cells (Value.map (some mb) :: vs).toArray 69 (0, 0))) (v : Value) : (w.setCell ⟨g, 97 + p, none⟩ v).heap[g]? = some (.cells (Value.map (some mb) :: vs.set (96 + p) v).toArray 69 (0, 0)) := by
  rw [show 97 + p = 1 + (96 + p) by omega]
  exact set_place h v
/-- What AddSignal answers. -/
def asE (L : List It) (ev sg : Int) : Int := if ¬ (1 ≤ sg ∧ sg ≤ 31) then 100 else if (look L ev).isSome then 180 else 0
theorem asE_zero {L : List It} {ev sg : Int} (h : asE L ev sg = 0) : (1 ≤ sg ∧ sg ≤ 31) ∧ look L ev = none := by
  unfold asE at h
  split at h
  · omega
  · rename_i h1
    split at h
    · omega
    · rename_i h2
      refine ⟨Decidable.byContradiction h1, ?_⟩
      cases hl : look L ev with
      | none => rfl
      | some t => rw [hl] at h2; exact absurd rfl h2

theorem AddSignal_bad (w : World) (g : Nat) (S : Nat → Prop) (N : Nat) (L : List It) (ev sg : Int) (h : Qw w g S N L) (hev : (Lit.int .i64 ev).wf = true) (hne : asE L ev sg ≠ 0) :
    Calls Try.prog 21 #[.pointer (some ⟨g, 0, none⟩), .int .i64 ev, .int .i64 sg] w fun e w' => e = .returned (.tuple #[.bool false, .int .i64 (asE L ev sg)]) ∧ Below w.heap.size w w' := by
  have NO := Lib.hid (none_any w g S N L h)
  have HA := Has_any w g S N L ev h hev
  unfold asE at hne ⊢
  by_cases hsg : 1 ≤ sg ∧ sg ≤ 31
  · rw [if_neg (fun h => h hsg)] at hne ⊢
    have hlk : (look L ev).isSome = true := by
      cases hb : (look L ev).isSome
      · rw [hb] at hne; simp at hne
      · rfl
    rw [if_pos hlk]
    rw [hlk] at HA
    have HA := Lib.hid HA
    obtain ⟨hs1, hs2⟩ := hsg
    clear h hne hlk
    go_enter Try.func21, Try.ntmps21
    go_wp2_with (first | (go_at_call 33; refine NO.out.mono ?_; rintro e w1 ⟨rfl, rfl⟩))
    refine HA.out.mono ?_
    rintro e w1 ⟨rfl, b1⟩
    go_wp2_with fail
    exact bodyPost_ret (v := .tuple #[.bool false, .int .i64 180]) (by simp [results, Try.results21, go_sem]) rfl ⟨rfl, b1⟩
  · rw [if_pos hsg]
    clear h hne HA
    by_cases h1 : sg < 1
    case' neg =>
      have h1 : 1 ≤ sg := by omega
      have h2 : 31 < sg := by omega
    all_goals
      clear hsg
      go_enter Try.func21, Try.ntmps21
      go_wp2_with (first | (go_at_call 33; refine NO.out.mono ?_; rintro e w1 ⟨rfl, rfl⟩))
      exact bodyPost_ret (v := .tuple #[.bool false, .int .i64 100]) (by simp [results, Try.results21, go_sem]) rfl ⟨rfl, Below.refl _ _⟩

set_option maxHeartbeats 4000000 in
theorem AddSignal_ok (w : World) (g : Nat) (S : Nat → Prop) (N : Nat) (L : List It) (ev sg : Int) (h : Qw w g S N L) (hN : N ≤ 9000) (hev : (Lit.int .i64 ev).wf = true) (hz : asE L ev sg = 0) :
    Calls Try.prog 21 #[.pointer (some ⟨g, 0, none⟩), .int .i64 ev, .int .i64 sg] w fun e w' => e = .returned (.tuple #[.bool ((sigL L sg).length == 0), .int .i64 0]) ∧ ∃ S', Qw w' g S' (N + 1) (L ++ [⟨ev, 0, sg, sg + 96⟩]) ∧ Stp S w S' w' := by
  obtain ⟨i3, hi0, hz0, hz1, hz2⟩ := info_parts info3
  have I3 := Lib.hid hi0; have Z3 := Lib.hid hz0; have S3 := Lib.hid hz1; have Y3 := Lib.hid hz2
  clear hi0 hz0 hz1 hz2
  obtain ⟨hsg, hlk⟩ := asE_zero hz
  have NO := Lib.hid (none_any w g S N L h)
  have HA := Has_any w g S N L ev h hev
  rw [hlk] at HA
  have HA := Lib.hid HA
  have hsl : sigL L sg = row L (sg + 96) := by unfold sigL; rw [if_pos hsg]
  rw [hsl]
  obtain ⟨k, rfl⟩ := Int.eq_ofNat_of_zero_le (show 0 ≤ sg by omega)
  obtain ⟨mb, D, vs, h, hS⟩ := h
  obtain ⟨v, hv, cv, zv, hrow⟩ := h.scell k (by omega)
  have hg := h.foot_lt (.inl rfl)
  have c0 := h.cell0
  have hap := h.ar (96 + k) v
  have hln : (row L ((k : Int) + 96)).length ≤ 9000 := by have := row_len L ((k : Int) + 96); have := h.ln; omega
  obtain ⟨A, cc, rfl, hlc, hcm, -⟩ := row_cells hrow
  have CC := Lib.hid (fun (W : World) (hB : Below w.heap.size w W) => And.intro ((hB.cell (p := ⟨g, 0, none⟩) hg).trans c0) (And.intro ((hB.cell (p := ⟨g, 97 + k, none⟩) hg).trans cv) ((hB.frozen (p := ⟨g, 97 + k, none⟩) hg).trans zv)))
  have hgm : g ≠ mb := fun e => h.ap e.symm
  have H := Lib.hid h; have HS := Lib.hid hS; have HV := Lib.hid hv; have HR := Lib.hid hrow; have HLK := Lib.hid hlk; have HEV := Lib.hid hev
  have HNE : Hid (∀ b, b = g ∨ b = mb → (Value.slice A (row L ((k : Int) + 96)).length cc).ownBlock ≠ some b) := Lib.hid (fun b hb e => by obtain ⟨h1, h2⟩ := hap b hv e; rcases hb with h | h; exact h1 h; exact h2 h)
  have ER : Hid (row (L ++ [⟨ev, 0, k, (k : Int) + 96⟩]) ((k : Int) + 96) = row L ((k : Int) + 96) ++ [⟨ev, 0, k, (k : Int) + 96⟩]) := Lib.hid (row_snoc_same L ⟨ev, 0, k, (k : Int) + 96⟩)
  have hk1 : (1 : Int) ≤ (k : Int) := hsg.1
  have hk31 : (k : Int) ≤ 31 := hsg.2
  have hk32 : (k : Int) < 32 := by omega
  have hxk := Go.Maps.keyOf_int_mk (P := Try.prog) Try.underlying3 hev
  clear h hS hv hap hrow hlk cv zv c0 hlc hcm hev hsg hsl hz
  generalize hM : (row L ((k : Int) + 96)).length = ln at *
  have HM := Lib.hid hM
  clear hM
  go_enter Try.func21, Try.ntmps21
  go_wp2_with (first | (go_at_call 33; refine NO.out.mono ?_; rintro e w1 ⟨rfl, rfl⟩))
  refine HA.out.mono ?_
  rintro e w1 ⟨rfl, b1⟩
  have B1 := Lib.hid b1
  obtain ⟨d0, d1, z1⟩ := CC.out w1 b1
  have MP : Hid (w1.ownsMap Try.prog 3 plR mb N D) := Lib.hid (map_same H.out.mp (b1.block _ H.out.mp.lt))
  have R1 : Hid (w1.ownsRow 0 3 1 (.slice A ln cc) ln (flat (row L ((k : Int) + 96)))) := Lib.hid (row_same HR.out (fun b e => b1.block b (HR.out.lt b e).2))
  clear b1 HA CC
  go_upto_region 8 with (first | (at_mapUpdate; refine wpList_mapUpdate_own _ rfl _ _ _ 65 rfl 3 78 key3 Try.underlying65 plR mb N D rfl MP.out (by unfold maxLen; omega) _ _ _ rfl rfl hxk (plD k 0) [] (plR_mk _ _) ?_; intro w4 m4 g4; have M4 := Lib.hid m4; have G4 := Lib.hid g4; have R4 : Hid (w4.ownsRow 0 3 1 (.slice A ln cc) ln (flat (row L ((k : Int) + 96)))) := Lib.hid (row_same R1.out (fun b e => G4.out.block b (R1.out.lt b e).2 (fun e2 => HNE.out mb (.inr rfl) (by injection e2 with e2; rw [← e2]; exact e)))); have y1 := far_cell G4.out d1 (by exact hgm); obtain ⟨y1, zy1⟩ := y1; have zy1 := zy1.trans z1; clear m4 g4))
  have y1a := (((Below.refl w4.heap.size w4).alloc (Nat.le_refl _) (.cells #[.int .i64 ev] 3)).cell (p := ⟨g, 97 + k, none⟩) (cell_lt y1).1).trans y1
  simp only [Act.put]
  go_cut [] (fun wx => Apd w4 (.slice A ln cc) g (97 + k) ev ln (flat (row L ((k : Int) + 96)) ++ [.int .i64 ev]) wx)
  case first =>
    go_region_law ((refine step_append_lies _ rfl (.tmp 36) (.tmp 38) 28 rfl 0 3 i3 _ 1 8 Try.underlying28 I3.out Z3.out S3.out Y3.out rfl (by omega) (.slice A ln cc) ln (flat (row L ((k : Int) + 96))) (by simp [Act.eval, Act.put]) (by exact R4.out.alloc _) ⟨w4.heap.size, 0, none⟩ 1 1 [.int .i64 ev] (by simp [Act.eval, Act.put]) (by rfl) (World.news_of_block (cs := #[.int .i64 ev]) (t := 3) (fr := (0, 0)) (by exact new_block _ _)) (by simp [Value.oneCell']) (by omega) (by unfold maxLen; omega) (by omega) (Nat.zero_le _) (w4.heap.size + 1) (by simp) ?_; intro gg cap w5 own2 gr2 at2 lt2; have GR : Hid (World.grownBy (w4.alloc (.cells #[.int .i64 ev] 3)) w5 _) := Lib.hid (by first | exact gr2 | exact grown_undrew gr2); have OW := Lib.hid own2; have AT := Lib.hid at2; clear own2 gr2 at2; have y2 := far_row GR.out (by exact y1) (by exact HNE.out g (.inl rfl)); obtain ⟨y2, z2⟩ := y2; have z2 := z2.trans (by exact zy1)))
    all_goals (go_wp2_with fail; go_meet; exact ⟨gg, cap, w5, rfl, GR.out, OW.out, AT.out⟩)
  case rest =>
    obtain ⟨gg, cap, w5, rfl, gr, ow, at'⟩ := hcut
    have GR := Lib.hid gr; have OW := Lib.hid ow; have AT := Lib.hid at'
    clear gr ow at' y1a d0 d1 z1
    have hgl1 := B1.out.size
    have hgl4 := G4.out.size
    have q5 : w5.heap[g]? = some (.cells (Value.map (some mb) :: vs).toArray 69 (0, 0)) :=
      (GR.out.block g (by simp; omega) (fun e => HNE.out g (.inl rfl) e.symm)).trans ((Below.heap_alloc _ _ _ (by omega)).trans ((G4.out.block g (by omega) (fun e => hgm (by injection e))).trans ((B1.out.block g hg).trans H.out.q)))
    have Q6 : Hid ((w5.setCell ⟨g, 97 + k, none⟩ (.slice (some ⟨gg, 0, none⟩) (ln + 1) cap)).heap[g]? = some (.cells (Value.map (some mb) :: vs.set (96 + k) (.slice (some ⟨gg, 0, none⟩) (ln + 1) cap)).toArray 69 (0, 0))) := Lib.hid (set_splace q5 _)
    have hvl : 96 + k < vs.length := by rw [H.out.vl]; omega
    have x5 : (w5.setCell ⟨g, 97 + k, none⟩ (.slice (some ⟨gg, 0, none⟩) (ln + 1) cap)).cell? ⟨g, 97 + k, none⟩ = some (.slice (some ⟨gg, 0, none⟩) (ln + 1) cap) := by
      rw [(cell_of Q6.out (97 + k)).1, show 97 + k = (96 + k) + 1 by omega]
      simp [hvl]
    have F5 : Hid (Fr (fun b => (Value.slice A ln cc).ownBlock = some b ∨ b = g ∨ b = mb) w (w5.setCell ⟨g, 97 + k, none⟩ (.slice (some ⟨gg, 0, none⟩) (ln + 1) cap))) := Lib.hid
      ((((Fr.of_below B1.out).tr (Fr.of_grown G4.out (fun b e => .inr (.inr (by injection e with e; exact e.symm))))).tr (Fr.of_grown (grown_trans (grown_alloc w4 (.cells #[.int .i64 ev] 3) _) GR.out) (fun b e => .inl e))).tr (Fr.of_grown (grown_set w5 g (97 + k) _) (fun b e => .inr (.inl (by injection e with e; exact e.symm)))))
    have M5 : Hid ((w5.setCell ⟨g, 97 + k, none⟩ (.slice (some ⟨gg, 0, none⟩) (ln + 1) cap)).ownsMap Try.prog 3 plR mb (N + 1) (D.put (.int .i64 ev) (plD k 0))) := Lib.hid
      (map_same M4.out ((set_other _ (fun e => hgm e.symm) _ _).trans ((GR.out.block mb (by have := M4.out.lt; simp; omega) (fun e => HNE.out mb (.inr rfl) e.symm)).trans (Below.heap_alloc _ _ _ M4.out.lt))))
    have hfresh : ∀ b', (Value.slice (some ⟨gg, 0, none⟩) (ln + 1) cap).ownBlock = some b' → (Value.slice A ln cc).ownBlock = some b' ∨ w.heap.size ≤ b' := fun b' e => by
      have e2 : gg = b' := by simpa [Value.ownBlock] using e
      subst e2
      rcases AT.out with h | h
      · exact .inl h
      · exact .inr (by omega)
    have hgg : gg ≠ g := fun e => by
      rcases hfresh gg rfl with h | h
      · exact HNE.out g (.inl rfl) (by rw [h, e])
      · omega
    have hown5 := row_same (w' := w5.setCell ⟨g, 97 + k, none⟩ (.slice (some ⟨gg, 0, none⟩) (ln + 1) cap)) OW.out (fun b e => set_other _ (fun e2 => hgg (by rw [← e2]; simpa [Value.ownBlock] using e)) _ _)
    have OW5 := Lib.hid hown5; have HFR := Lib.hid hfresh
    clear q5 hown5 hfresh y1 zy1
    have e1 : ((ln : Int) + 1 == 1) = (ln == 0) := by
      rw [Bool.eq_iff_iff]; simp; omega
    generalize w5.setCell ⟨g, 97 + k, none⟩ (.slice (some ⟨gg, 0, none⟩) (ln + 1) cap) = w6 at *
    go_wp2_with fail
    refine bodyPost_ret (v := .tuple #[.bool (ln == 0), .int .i64 0]) (by simp [results, Try.results21, go_sem]) rfl ⟨rfl, ?_⟩
    obtain ⟨p1, p2, p3⟩ := put_map (H.out.mp.tidy key3) H.out.mp.isMap ⟨ev, 0, k, (k : Int) + 96⟩ HEV.out HLK.out H.out.hd H.out.ad H.out.sz
    have hbd := bd_i64 HEV.out
    have ecast : ((96 + k : Nat) : Int) = (k : Int) + 96 := by omega
    exact turn H.out HS.out (96 + k) _ _ HV.out F5.out Q6.out (by rw [ecast, ER.out, flat_append, List.length_append, HM.out]; exact OW5.out) HFR.out M5.out (fun r hr => row_snoc_other _ _ (by simp; omega)) p1 p2 p3 (H.out.ok.snoc _ (look_none.1 HLK.out) ⟨hbd.1, hbd.2, .inl ⟨rfl, hk1, hk31, rfl⟩⟩) (by have := H.out.ln; simp; omega)
end Go.Proofs.Ytllolfbjmpaamaa
