/- Add. -/
import Derived.Test.YtllolfbjmpaamaaF
import Derived.Deep.RegionLaw
import Derived.Deep.Upon
import Derived.BigQuiet
import Derived.Carry
namespace Go.Proofs.Ytllolfbjmpaamaa
open Go.RowKit
set_option linter.unusedSimpArgs false
set_option linter.unusedVariables false
set_option maxRecDepth 100000

theorem Fr.of_grown {S : Nat → Prop} {w w' : World} {r : Option Nat} (h : w.grownBy w' r) (hr : ∀ b, r = some b → S b) : Fr S w w' := ⟨h.os, h.tape, h.output, h.size, fun b hb hn => h.block b hb (fun e => hn (hr b e.symm))⟩
theorem Fr.tr {S : Nat → Prop} {a b c : World} (h : Fr S a b) (k : Fr S b c) : Fr S a c := h.trans (fun _ h => .inl h) k
theorem set_place {w : World} {g mb p : Nat} {vs : List Value} (h : w.heap[g]? = some (.cells (Value.map (some mb) :: vs).toArray 69 (0, 0))) (v : Value) : (w.setCell ⟨g, 1 + p, none⟩ v).heap[g]? = some (.cells (Value.map (some mb) :: vs.set p v).toArray 69 (0, 0)) := by
  rw [set_block h, List.setIfInBounds_toArray, Nat.add_comm 1 p, List.set_cons_succ]
theorem chk_zero {L : List It} {ev fd wn : Int} (h : chk L ev fd wn = 0) : (0 ≤ fd ∧ fd ≤ 95) ∧ MayW wn ∧ look L ev = none := by
  unfold chk at h
  split at h
  · omega
  · rename_i h1
    split at h
    · omega
    · rename_i h2
      refine ⟨Decidable.byContradiction fun h3 => h1 (.inl h3), Decidable.byContradiction fun h3 => h1 (.inr h3), ?_⟩
      cases hl : look L ev with
      | none => rfl
      | some t => rw [hl] at h2; exact absurd rfl h2

theorem Add_bad (w : World) (g : Nat) (S : Nat → Prop) (N : Nat) (L : List It) (ev fd wn : Int) (h : Qw w g S N L) (hN : N ≤ 9000) (hev : (Lit.int .i64 ev).wf = true) (hwn : (Lit.int .i64 wn).wf = true) (hck : chk L ev fd wn ≠ 0) :
    Calls Try.prog 15 #[.pointer (some ⟨g, 0, none⟩), .int .i64 ev, .int .i64 fd, .int .i64 wn] w fun e w' => e = .returned (.tuple #[.int .i64 0, .int .i64 0, .int .i64 (chk L ev fd wn)]) ∧ Below w.heap.size w w' := by
  have HC := Lib.hid (Check_any w g S N L ev fd wn h (by omega) hev hwn)
  have hne : (chk L ev fd wn != 0) = true := by simpa using hck
  clear h hck
  generalize chk L ev fd wn = c at *
  go_enter Try.func15, Try.ntmps15
  go_wp2_with fail
  refine HC.out.mono ?_
  rintro e w1 ⟨rfl, b1⟩
  go_wp2_with fail
  exact bodyPost_ret (v := .tuple #[.int .i64 0, .int .i64 0, .int .i64 c]) (by simp [results, Try.results15, go_sem]) rfl ⟨rfl, b1⟩

set_option maxHeartbeats 4000000 in
theorem Add_ok (w : World) (g : Nat) (S : Nat → Prop) (N : Nat) (L : List It) (ev fd wn : Int) (h : Qw w g S N L) (hN : N ≤ 9000) (hev : (Lit.int .i64 ev).wf = true) (hwn : (Lit.int .i64 wn).wf = true) (hck : chk L ev fd wn = 0) :
    Calls Try.prog 15 #[.pointer (some ⟨g, 0, none⟩), .int .i64 ev, .int .i64 fd, .int .i64 wn] w fun e w' => e = .returned (.tuple #[.int .i64 (wants L fd), .int .i64 (bits .or .i64 (wants L fd) wn), .int .i64 0]) ∧ ∃ S', Qw w' g S' (N + 1) (L ++ [⟨ev, wn, fd, fd⟩]) ∧ Stp S w S' w' := by
  obtain ⟨i3, hi0, hz0, hz1, hz2⟩ := info_parts info3
  have I3 := Lib.hid hi0; have Z3 := Lib.hid hz0; have S3 := Lib.hid hz1; have Y3 := Lib.hid hz2
  clear hi0 hz0 hz1 hz2
  have HC := Check_any w g S N L ev fd wn h (by omega) hev hwn
  rw [hck] at HC
  have HC := Lib.hid HC
  obtain ⟨hfd, hmw, hlk⟩ := chk_zero hck
  have HW := Lib.hid (fun (W : World) (hB : Below w.heap.size w W) => Wants_any W g S N L fd (h.below hB) (by omega))
  obtain ⟨k, rfl⟩ := Int.eq_ofNat_of_zero_le hfd.1
  obtain ⟨mb, D, vs, h, hS⟩ := h
  obtain ⟨v, hv, cv, zv, hrow⟩ := h.cell k (by omega)
  have hg := h.foot_lt (.inl rfl)
  have c0 := h.cell0
  have hap := h.ar k v
  have hln : (row L (k : Nat)).length ≤ 9000 := by have := row_len L (k : Nat); have := h.ln; omega
  obtain ⟨A, cc, rfl, hlc, hcm, -⟩ := row_cells hrow
  have CC := Lib.hid (fun (W : World) (hB : Below w.heap.size w W) => And.intro ((hB.cell (p := ⟨g, 0, none⟩) hg).trans c0) (And.intro ((hB.cell (p := ⟨g, 1 + k, none⟩) hg).trans cv) ((hB.frozen (p := ⟨g, 1 + k, none⟩) hg).trans zv)))
  have hgm : g ≠ mb := fun e => h.ap e.symm
  have H := Lib.hid h; have HS := Lib.hid hS; have HV := Lib.hid hv; have HR := Lib.hid hrow; have HLK := Lib.hid hlk; have HMW := Lib.hid hmw; have HEV := Lib.hid hev
  have HNE : Hid (∀ b, b = g ∨ b = mb → (Value.slice A (row L (k : Nat)).length cc).ownBlock ≠ some b) := Lib.hid (fun b hb e => by obtain ⟨h1, h2⟩ := hap b hv e; rcases hb with h | h; exact h1 h; exact h2 h)
  have ER : Hid (row (L ++ [⟨ev, wn, k, k⟩]) (k : Nat) = row L (k : Nat) ++ [⟨ev, wn, k, k⟩]) := Lib.hid (row_snoc_same L ⟨ev, wn, k, k⟩)
  have hk96 : (k : Int) < 96 := by omega
  have hxk := Go.Maps.keyOf_int_mk (P := Try.prog) Try.underlying3 hev
  clear h hS hv hap hrow hlk hmw hck cv zv c0 hlc hcm hev hwn hfd
  generalize wants L (k : Nat) = ws at *
  generalize hM : (row L (k : Nat)).length = ln at *
  have HM := Lib.hid hM
  clear hM
  go_enter Try.func15, Try.ntmps15
  go_wp2_with fail
  refine HC.out.mono ?_
  rintro e w1 ⟨rfl, b1⟩
  have B1 := Lib.hid b1
  obtain ⟨d0, d1, z1⟩ := CC.out w1 b1
  have MP : Hid (w1.ownsMap Try.prog 3 plR mb N D) := Lib.hid (map_same H.out.mp (b1.block _ H.out.mp.lt))
  have R1 : Hid (w1.ownsRow 0 3 1 (.slice A ln cc) ln (flat (row L (k : Nat)))) := Lib.hid (row_same HR.out (fun b e => b1.block b (HR.out.lt b e).2))
  clear b1 HC CC
  go_upto_region 6 with (first | (go_at_call 13; refine (HW.out _ B1.out).mono ?_; rintro e w2 ⟨rfl, rfl⟩) | (at_mapUpdate; refine wpList_mapUpdate_own _ rfl _ _ _ 65 rfl 3 78 key3 Try.underlying65 plR mb N D rfl MP.out (by unfold maxLen; omega) _ _ _ rfl rfl hxk (plD k wn) [] (plR_mk _ _) ?_; intro w4 m4 g4; have M4 := Lib.hid m4; have G4 := Lib.hid g4; have R4 : Hid (w4.ownsRow 0 3 1 (.slice A ln cc) ln (flat (row L (k : Nat)))) := Lib.hid (row_same R1.out (fun b e => G4.out.block b (R1.out.lt b e).2 (fun e2 => HNE.out mb (.inr rfl) (by injection e2 with e2; rw [← e2]; exact e)))); have y1 := far_cell G4.out d1 (by exact hgm); obtain ⟨y1, zy1⟩ := y1; have zy1 := zy1.trans z1; clear m4 g4))
  have y1a := (((Below.refl w4.heap.size w4).alloc (Nat.le_refl _) (.cells #[.int .i64 ev] 3)).cell (p := ⟨g, 1 + k, none⟩) (cell_lt y1).1).trans y1
  simp only [Act.put]
  go_cut [] (fun wx => Apd w4 (.slice A ln cc) g (1 + k) ev ln (flat (row L (k : Nat)) ++ [.int .i64 ev]) wx)
  case first =>
    go_region_law ((refine step_append_lies _ rfl (.tmp 38) (.tmp 40) 28 rfl 0 3 i3 _ 1 8 Try.underlying28 I3.out Z3.out S3.out Y3.out rfl (by omega) (.slice A ln cc) ln (flat (row L (k : Nat))) (by simp [Act.eval, Act.put]) (by exact R4.out.alloc _) ⟨w4.heap.size, 0, none⟩ 1 1 [.int .i64 ev] (by simp [Act.eval, Act.put]) (by rfl) (World.news_of_block (cs := #[.int .i64 ev]) (t := 3) (fr := (0, 0)) (by exact new_block _ _)) (by simp [Value.oneCell']) (by omega) (by unfold maxLen; omega) (by omega) (Nat.zero_le _) (w4.heap.size + 1) (by simp) ?_; intro gg cap w5 own2 gr2 at2 lt2; have GR : Hid (World.grownBy (w4.alloc (.cells #[.int .i64 ev] 3)) w5 _) := Lib.hid (by first | exact gr2 | exact grown_undrew gr2); have OW := Lib.hid own2; have AT := Lib.hid at2; clear own2 gr2 at2; have y2 := far_row GR.out (by exact y1) (by exact HNE.out g (.inl rfl)); obtain ⟨y2, z2⟩ := y2; have z2 := z2.trans (by exact zy1)))
    all_goals (go_wp2_with fail; go_meet; exact ⟨gg, cap, w5, rfl, GR.out, OW.out, AT.out⟩)
  case rest =>
    obtain ⟨gg, cap, w5, rfl, gr, ow, at'⟩ := hcut
    have GR := Lib.hid gr; have OW := Lib.hid ow; have AT := Lib.hid at'
    clear gr ow at' y1a y1 zy1 d0 d1 z1
    go_wp2_with fail
    refine bodyPost_ret (v := .tuple #[.int .i64 ws, .int .i64 (bits .or .i64 ws wn), .int .i64 0]) (by simp [results, Try.results15, go_sem]) rfl ⟨rfl, ?_⟩
    have hgl1 := B1.out.size
    have hgl4 := G4.out.size
    have F5 : Fr (fun b => (Value.slice A ln cc).ownBlock = some b ∨ b = g ∨ b = mb) w (w5.setCell ⟨g, 1 + k, none⟩ (.slice (some ⟨gg, 0, none⟩) (ln + 1) cap)) :=
      (((Fr.of_below B1.out).tr (Fr.of_grown G4.out (fun b e => .inr (.inr (by injection e with e; exact e.symm))))).tr (Fr.of_grown (grown_trans (grown_alloc w4 (.cells #[.int .i64 ev] 3) _) GR.out) (fun b e => .inl e))).tr (Fr.of_grown (grown_set w5 g (1 + k) _) (fun b e => .inr (.inl (by injection e with e; exact e.symm))))
    have q5 : w5.heap[g]? = some (.cells (Value.map (some mb) :: vs).toArray 69 (0, 0)) :=
      (GR.out.block g (by simp; omega) (fun e => HNE.out g (.inl rfl) e.symm)).trans ((Below.heap_alloc _ _ _ (by omega)).trans ((G4.out.block g (by omega) (fun e => hgm (by injection e))).trans ((B1.out.block g hg).trans H.out.q)))
    have M5 : (w5.setCell ⟨g, 1 + k, none⟩ (.slice (some ⟨gg, 0, none⟩) (ln + 1) cap)).ownsMap Try.prog 3 plR mb (N + 1) (D.put (.int .i64 ev) (plD k wn)) :=
      map_same M4.out ((set_other _ (fun e => hgm e.symm) _ _).trans ((GR.out.block mb (by have := M4.out.lt; simp; omega) (fun e => HNE.out mb (.inr rfl) e.symm)).trans (Below.heap_alloc _ _ _ M4.out.lt)))
    have hfresh : ∀ b', (Value.slice (some ⟨gg, 0, none⟩) (ln + 1) cap).ownBlock = some b' → (Value.slice A ln cc).ownBlock = some b' ∨ w.heap.size ≤ b' := fun b' e => by
      have e2 : gg = b' := by simpa [Value.ownBlock] using e
      subst e2
      rcases AT.out with h | h
      · exact .inl h
      · exact .inr (by omega)
    have hgg : gg ≠ g := fun e => by
      rcases hfresh gg rfl with h | h
      · exact HNE.out g (.inl rfl) (by rw [h, e])
      · omega
    obtain ⟨p1, p2, p3⟩ := put_map (H.out.mp.tidy key3) H.out.mp.isMap ⟨ev, wn, k, k⟩ HEV.out HLK.out H.out.hd H.out.ad H.out.sz
    have hbd := bd_i64 HEV.out
    have hown5 := row_same (w' := w5.setCell ⟨g, 1 + k, none⟩ (.slice (some ⟨gg, 0, none⟩) (ln + 1) cap)) OW.out (fun b e => set_other _ (fun e2 => hgg (by rw [← e2]; simpa [Value.ownBlock] using e)) _ _)
    obtain ⟨S', q', st⟩ := turn H.out HS.out k _ _ HV.out F5 (set_place q5 _) (by rw [ER.out, flat_append, List.length_append, HM.out]; exact hown5) hfresh M5 (fun r hr => row_snoc_other _ _ (by simp; omega)) p1 p2 p3 (H.out.ok.snoc _ (look_none.1 HLK.out) ⟨hbd.1, hbd.2, .inr ⟨HMW.out, by simp, by simp; omega, rfl⟩⟩) (by have := H.out.ln; simp; omega)
    exact ⟨S', q', st⟩
end Go.Proofs.Ytllolfbjmpaamaa
