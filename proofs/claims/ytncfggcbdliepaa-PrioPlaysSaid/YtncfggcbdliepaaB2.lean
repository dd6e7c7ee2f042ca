/- Batch. -/
import Derived.Test.YtncfggcbdliepaaJ
namespace Go.Proofs.Ytncfggcbdliepaa
open Go.RowKit
open Go.Maps (Keyed)
set_option linter.unusedSimpArgs false
set_option linter.unusedVariables false
set_option maxRecDepth 100000

/-- delete, as a step of a region that draws its order. -/
theorem step_delete_own {H : Type} {P : Program} {w : World} {ops : Array Oper} {o : Oper} {a : Act} {K : Act → World → Prop} {Q : Exit → Act → World → Prop} {E : Prop} (hg : o.guard = none) (m x : Operand) (t k : TypeId) (hop : o.op = Op.call { callee := Callee.builtin Builtin.delete, args := #[m, x], argTypes := #[t, k] })
    (e : TypeId) (Ky : Keyed P k) (ht : P.underlying t = some (.map k e)) (R : Value → Option (DataW H × List MemPlace)) (b n : Nat) (D : DataW H)
    (hm : a.eval m = .map (some b)) (hown : w.ownsMap P k R b n D) (key : Value) (kl : Lit) (hx : a.eval x = key) (hkey : keyOf P k key = some kl)
    (hK : ∀ w', w'.ownsMap P k R b n (D.del kl) → w.mapTurned w' b → K (a.put o.dst (.tuple #[])) w') :
    if Region.wanted o (yielded ops a.tmps) = true then Oper.wp P o a w K Q else E := by
  have hw : Region.wanted o (yielded ops a.tmps) = true := by simp [Region.wanted, hg]
  rw [if_pos hw]
  obtain ⟨w', hrun, r1, r2⟩ := hown.drop Ky ht hkey o.type
  unfold Oper.wp
  simp [execOp, hop, resolve, invoke, builtin, hm, hx, hrun, Result.andThen]
  exact hK w' r1 r2

/-- What the map says of a list. -/
structure MapL (D : DataW Unit) (L : List It) : Prop where
  hd : ∀ y, (Lit.int .i64 y).wf = true → Maps.has D (.int .i64 y) = (look L y).isSome
  ad : ∀ y t, look L y = some t → D.atKey (.int .i64 y) (.lit (.int .i64 0)) = .lit (.int .i64 t.pr)
theorem MapL.cut {D : DataW Unit} {L : List It} (h : MapL D L) (x : Int) : MapL (D.del (.int .i64 x)) (cutL L x) := by
  obtain ⟨h1, h2⟩ := cut_map x h.hd h.ad
  exact ⟨h1, h2⟩

theorem Batch_none (w : World) (g : Nat) (S : Nat → Prop) (N m : Nat) (h : Qw w g S N m []) (hN : N ≤ 100000) :
    Calls Try.prog 13 #[.pointer (some ⟨g, 0, none⟩)] w fun e w' => e = .returned (.slice none 0 0) ∧ Below w.heap.size w w' := by
  have LE := Lib.hid (Least_any w g S N m [] h hN)
  rw [least_nil] at LE
  clear h
  go_enter Try.func13, Try.ntmps13
  go_wp2_with fail
  refine LE.out.mono ?_
  rintro e w1 ⟨rfl, b1⟩
  go_wp2_with fail
  go_ret
  exact ⟨rfl, b1⟩

set_option maxHeartbeats 4000000 in
theorem batch_some (w : World) (g : Nat) (S : Nat → Prop) (N m : Nat) (L : List It) (p : Nat) (h : Qw w g S N m L) (hN : N ≤ 10000) (hl : least L = p) (hp : p < m) :
    Calls Try.prog 13 #[.pointer (some ⟨g, 0, none⟩)] w fun e w' => (∃ v, e = .returned v ∧ w'.ownsRow 0 35 3 v (row L p).length (flat (row L p)) ∧ ∃ S', Qw w' g S' N m (restL L p) ∧ Stp S w S' w' ∧ ∀ b, v.ownBlock = some b → S b ∧ ¬ S' b) := by
  have LE := Lib.hid (Least_any w g S N m L h (by omega))
  rw [hl] at LE
  have hok := h.ok
  have hm8 := h.m8
  obtain ⟨lb, mb, D, vs, h, hS⟩ := h
  obtain ⟨v, hv, cv, zv, hrow⟩ := h.cell p hp
  have hg := h.foot_lt (.inl rfl)
  have hlb := h.foot_lt (.inr (.inl rfl))
  have hmb := h.mp.lt
  obtain ⟨c0, c1⟩ := h.cells
  have hap := h.ar p v
  obtain ⟨a1, a2, a3⟩ := h.ap
  have hln : (row L p).length ≤ 10000 := by have := row_len L p; have := h.ln; omega
  obtain ⟨A, cc, rfl, hlc, hcm, hcell⟩ := row_cells hrow
  have H := Lib.hid h; have HS := Lib.hid hS; have HV := Lib.hid hv; have HAP := Lib.hid hap; have HR := Lib.hid hrow; have HC := Lib.hid hcell; have HOK := Lib.hid hok
  have CC := Lib.hid (fun (W : World) (hB : Below w.heap.size w W) => And.intro ((hB.cell (p := ⟨g, 0, none⟩) hg).trans c0) (And.intro ((hB.cell (p := ⟨lb, p, none⟩) hlb).trans cv) ((hB.frozen (p := ⟨lb, p, none⟩) hlb).trans zv)))
  clear h hS hv hap hrow c0 c1 cv zv hlc hcm hcell hok hl
  have HRL := Lib.hid (rfl : (row L p).length = (row L p).length)
  generalize hM : (row L p).length = ln at *
  have HM := Lib.hid hM
  clear hM
  go_enter Try.func13, Try.ntmps13
  go_wp2_with fail
  refine LE.out.mono ?_
  rintro e w1 ⟨rfl, b1⟩
  obtain ⟨d0, d1, d2⟩ := CC.out w1 b1
  have hw1 := b1.size
  have B1 := Lib.hid b1
  have hp1 : (p : Int) < (m : Int) := by omega
  clear b1 LE CC
  go_wp2_with fail
  have hset : Hid ((w1.setCell ⟨lb, p, none⟩ (.slice none 0 0)).heap[lb]? = some (.cells (vs.set p (.slice none 0 0)).toArray 32 (0, 0))) := Lib.hid (by
    have := set_block ((B1.out.block lb hlb).trans H.out.l) p (.slice none 0 0)
    rwa [List.setIfInBounds_toArray] at this)
  have G2 := Lib.hid (grown_set w1 lb p (.slice none 0 0))
  have M2 : Hid ((w1.setCell ⟨lb, p, none⟩ (.slice none 0 0)).ownsMap Try.prog 3 (plainElem Try.prog 3) mb N D) := Lib.hid (map_same H.out.mp ((set_other w1 (fun e => a3 e.symm) p _).trans (B1.out.block mb hmb)))
  have hs2 : (w1.setCell ⟨lb, p, none⟩ (.slice none 0 0)).heap.size = w1.heap.size := by simp [World.setCell]
  generalize w1.setCell ⟨lb, p, none⟩ (.slice none 0 0) = w2 at *
  have hg2 := far_cell G2.out (a := ⟨g, 1, none⟩) (show w1.cell? ⟨g, 1, none⟩ = some (.map (some mb)) from (B1.out.cell (p := ⟨g, 1, none⟩) hg).trans H.out.cells.2) (fun e => a1 e.symm)
  obtain ⟨hg2, -⟩ := hg2
  have ROWK : Hid (∀ k, k < ln → ∃ t b, (row L p)[k]? = some t ∧ A = some ⟨b, 0, none⟩ ∧ 0 ≤ t.id ∧ t.id ≤ 9223372036854775807 ∧ ∀ W : World, w2.grownBy W (some mb) → W.cell? ⟨b, k * 3, none⟩ = some (.int .i64 t.id) ∧ W.cell? ⟨b, k * 3 + 1, none⟩ = some (.int .i64 t.fl) ∧ W.cell? ⟨b, k * 3 + 2, none⟩ = some (.int .i64 t.ct)) := Lib.hid (fun k hk => by
    have hk2 : k < (row L p).length := by rw [HM.out]; exact hk
    obtain ⟨b, hA, hb, ho, hW⟩ := HC.out k _ (List.getElem?_eq_getElem hk2)
    have hb3 := HAP.out b HV.out ho
    have hbd := HOK.out.b _ (mem_row.1 (List.getElem_mem hk2)).1
    refine ⟨_, b, List.getElem?_eq_getElem hk2, hA, hbd.1, hbd.2.1, fun W hg => ?_⟩
    obtain ⟨x0, x1, x2, _⟩ := hW W ((hg.block b (by omega) (fun e => hb3.2.2 (by injection e))).trans ((G2.out.block b (by omega) (fun e => hb3.2.1 (by injection e))).trans (B1.out.block b hb)))
    exact ⟨x0, x1, x2⟩)
  have ML0 : Hid (MapL D L) := Lib.hid ⟨H.out.hd, H.out.ad⟩
  clear HC d0 d1 d2
  go_loopw [26] (fun i wr => ∃ (k : Nat) (D' : DataW Unit), k ≤ ln ∧ i = .int .i64 k ∧ Hid (w2.grownBy wr (some mb)) ∧ Hid (wr.ownsMap Try.prog 3 (plainElem Try.prog 3) mb N D') ∧ Hid (MapL D' (((row L p).take k).foldl (fun M t => cutL M t.id) L))) (fun i _ => ln - (intOf i).toNat)
  case atStart => exact ⟨0, D, Nat.zero_le _, rfl, Lib.hid (grown_refl _ _), M2, by rw [List.take_zero]; exact ML0⟩
  case round =>
    obtain ⟨k, D', hk, rfl, GW, MW, ML⟩ := hrel
    have hws := GW.out.size
    by_cases hlt : k < ln
    · obtain ⟨t, b, htk, rfl, t0, t1, hcl⟩ := ROWK.out k hlt
      obtain ⟨x0, x1, x2⟩ := hcl wr GW.out
      have gw1 := (GW.out.block g (by omega) (fun e => a2 (by injection e with e; exact e.symm)))
      have cg : wr.cell? ⟨g, 1, none⟩ = some (.map (some mb)) := (World.cell?_of_block (a := ⟨g, 1, none⟩) gw1).trans hg2
      have hgl : g < wr.heap.size := by omega
      have hkey := Go.Maps.keyOf_int_mk (P := Try.prog) Try.underlying3 (wf64 (x := t.id) (by omega) t1)
      have HST : Hid (((row L p).take (k + 1)).foldl (fun M t => cutL M t.id) L = cutL (((row L p).take k).foldl (fun M t => cutL M t.id) L) t.id) := Lib.hid (by
        have hk2 : k < (row L p).length := by rw [HM.out]; exact hlt
        rw [List.take_succ_eq_append_getElem hk2, List.foldl_append]
        rw [List.getElem?_eq_getElem hk2] at htk
        injection htk with htk
        rw [htk]; rfl)
      have HT1 := Lib.hid t1
      obtain ⟨ti, tf, tc, tp⟩ := t
      simp only at x0 x1 x2 hkey HST t0
      clear htk hcl gw1 t1
      go_wp2_with fail
      go_region_law (refine step_delete_own rfl (.tmp 33) (.tmp 35) 63 3 rfl 3 key3 Try.underlying63 (plainElem Try.prog 3) mb N D' (by simp [Act.eval, Act.put]) (by exact MW.out.alloc _) _ (.int .i64 ti) (by simp [Act.eval, Act.put]) hkey ?_; intro w4 m4 t4)
      all_goals
        have G4 := Lib.hid (grown_trans GW.out (grown_trans (grown_alloc wr (.cells #[.int .i64 ti, .int .i64 tf, .int .i64 tc] 35) _) (by first | exact t4.grown | exact grown_undrew t4.grown)))
        have M4 := Lib.hid m4
        clear m4 t4
        go_wp2_with fail
        go_roundw
        case rel => exact ⟨k + 1, D'.del (.int .i64 ti), by omega, by go_num, G4, M4, by rw [HST.out]; exact Lib.hid (ML.out.cut ti)⟩
        case measure => simp [intOf]; omega
    · obtain rfl : k = ln := by omega
      go_wp2_with fail
      go_ret
      have ml := ML.out
      rw [List.take_of_length_le (by rw [HM.out]; exact Nat.le_refl _), cuts_rest HOK.out] at ml
      have hrp : row (restL L p) (p : Nat) = [] := by rw [row_rest, if_pos rfl]
      have hpv : p < vs.length := by rw [H.out.vl]; exact hp
      obtain ⟨q1, q2⟩ := turn' (v' := .slice none 0 0) (L' := restL L p) H.out HS.out p _ HV.out (grown_of_below B1.out _) (by rw [hrp]; exact World.ownsRow_nil _ _ _ _) (fun b e => by cases e) G2.out hset.out GW.out MW.out (fun r hr => by rw [row_rest, if_neg (by omega)]) ml.hd ml.ad (HOK.out.rest p) (Nat.le_trans (List.length_filter_le _ _) H.out.ln)
      refine ⟨_, rfl, row_same HR.out (fun b e => ?_), _, q1, q2, fun b e => ⟨(HS.out b).2 (.inr (.inr (.inr ⟨_, List.mem_of_getElem? HV.out, e⟩))), fun hf => ?_⟩⟩
      · have hb3 := HAP.out b HV.out e
        have hbl := (HR.out.lt b e).2
        exact (GW.out.block b (by omega) (fun e => hb3.2.2 (by injection e))).trans ((G2.out.block b (by omega) (fun e => hb3.2.1 (by injection e))).trans (B1.out.block b hbl))
      · have hb3 := HAP.out b HV.out e
        rcases hf with h | h | h | ⟨u, hu, e2⟩
        · exact hb3.1 h
        · exact hb3.2.1 h
        · exact hb3.2.2 h
        · obtain ⟨q, hq, rfl⟩ := List.getElem_of_mem hu
          by_cases hqp : p = q
          · subst hqp
            rw [List.getElem_set_self] at e2
            cases e2
          · rw [List.getElem_set_ne hqp] at e2
            have hq2 : q < vs.length := by simpa using hq
            exact hqp (H.out.aa p q _ _ b HV.out (List.getElem?_eq_getElem hq2) e e2)
end Go.Proofs.Ytncfggcbdliepaa
