/- Cut. -/
import Derived.Test.YtllolfbjmpaamaaH
namespace Go.Proofs.Ytllolfbjmpaamaa
open Go.RowKit
set_option linter.unusedSimpArgs false
set_option linter.unusedVariables false
set_option maxRecDepth 100000

/-- The worlds that keep W. -/
structure Aft (W : World) where
  val : World
  property : Below W.heap.size W val
instance (W : World) : Nonempty (Aft W) := ⟨⟨W, Below.refl _ _⟩⟩
theorem quiet_call {W : World} {P : Program} {f : FuncId} {args : Array Value} {v : Value} (n : Aft W) (h : Calls P f args n.val fun e w' => e = .returned v ∧ Below n.val.heap.size n.val w') : Calls P f args n.val fun e w'' => e = .returned v ∧ ∃ m : Aft W, w'' = m.val :=
  h.mono fun _ w' ⟨he, hb⟩ => ⟨he, ⟨w', n.property.trans (hb.mono n.property.size)⟩, rfl⟩
/-- A region that draws its order, reads, and calls what makes memory: one walk, in the order of the text. -/
theorem wp_region_aft {P : Program} {W : World} {id : Nat} {Q : Exit → Act → World → Prop} {a : Act} {w : World} {l : List Oper} (hm : P.follows .mixedOrders = true) (hB : Region.lexB .any l.toArray = true) (h0 : Below W.heap.size W w)
    (h : wpQuiet P l.toArray (fun w' => ∃ n : Aft W, w' = n.val) (fun a' => ∀ w', (∃ n : Aft W, w' = n.val) → Q .normal a' w') l a) : (Code.region id l.toArray true).wp P Q a w :=
  wp_region_quiet (C := fun w' => ∃ n : Aft W, w' = n.val) hm hB ⟨⟨_, h0.drew⟩, rfl⟩ (by simpa using h)
theorem Wants_below {w : World} {g : Nat} {S : Nat → Prop} {N : Nat} {L : List It} (h : Qw w g S N L) (hN : N ≤ 10000) (fd : Int) : ∀ W, Below w.heap.size w W → Calls Try.prog 13 #[.pointer (some ⟨g, 0, none⟩), .int .i64 fd] W fun e w' => e = .returned (.int .i64 (wants L fd)) ∧ Below W.heap.size W w' :=
  fun W hb => (Wants_any W g S N L fd (h.below hb) hN).mono (by rintro e w' ⟨rfl, rfl⟩; exact ⟨rfl, Below.refl _ _⟩)

theorem Cut_bad (w : World) (g : Nat) (S : Nat → Prop) (N : Nat) (L : List It) (x : Int) (h : Qw w g S N L) (hx : (Lit.int .i64 x).wf = true) (hb : (itOf L x).wn = 0) :
    Calls Try.prog 17 #[.pointer (some ⟨g, 0, none⟩), .int .i64 x] w fun e w' => e = .returned (.tuple #[.int .i64 0, .int .i64 0, .int .i64 0, .int .i64 181]) ∧ Below w.heap.size w w' := by
  have NO := Lib.hid (none_any w g S N L h)
  obtain ⟨mb, D, vs, h, hS⟩ := h
  have hlk := h.look2 hx
  have hc := h.cell0
  clear h hS
  rw [hb] at hlk
  generalize (itOf L x).nu = nu at *
  cases hs : (look L x).isSome
  all_goals
    rw [hs] at hlk
    clear hs hb
    go_enter Try.func17, Try.ntmps17
    go_wp2_with (go_at_call 33; refine NO.out.mono ?_; rintro e w1 ⟨rfl, rfl⟩)
    exact bodyPost_ret (v := .tuple #[.int .i64 0, .int .i64 0, .int .i64 0, .int .i64 181]) (by simp [results, Try.results17, go_sem]) rfl ⟨rfl, (Below.refl _ _).alloc (Nat.le_refl _) _⟩

/-- Behind 'list = without(list, number)'. -/
def Wth (w4 : World) (g p : Nat) (l : List It) (wr : World) : Prop :=
  ∃ A c w5, wr = w5.setCell ⟨g, p, none⟩ (.slice A l.length c) ∧ Below w4.heap.size w4 w5 ∧ w5.ownsRow w4.heap.size 3 1 (.slice A l.length c) l.length (flat l)

set_option maxHeartbeats 4000000 in
theorem Cut_ok (w : World) (g : Nat) (S : Nat → Prop) (N : Nat) (L : List It) (t : It) (h : Qw w g S N L) (hN : N ≤ 9000) (ht : t ∈ L) (hwn : t.wn ≠ 0) :
    Calls Try.prog 17 #[.pointer (some ⟨g, 0, none⟩), .int .i64 t.id] w fun e w' => e = .returned (.tuple #[.int .i64 t.nu, .int .i64 (wants L t.nu), .int .i64 (wants (cutL L t.id) t.nu), .int .i64 0]) ∧ ∃ S', Qw w' g S' N (cutL L t.id) ∧ Stp S w S' w' := by
  have hok := h.ok
  have hit := hok.b t ht
  have hx := wf64 hit.lo hit.hi
  have hlk0 := look_mem hok ht
  have hitof : itOf L t.id = t := by unfold itOf; rw [hlk0]; rfl
  obtain ⟨hmw, hn0, hn1, hpr⟩ := hit.b.resolve_left (fun h => hwn h.1)
  have NO := Lib.hid (none_any w g S N L h)
  have HW := Lib.hid (fun (W : World) (hB : Below w.heap.size w W) => Wants_any W g S N L t.nu (h.below hB) (by omega))
  have HLT := Lib.hid (fun b (hb : S b) => h.lt hb)
  obtain ⟨k, hk⟩ := Int.eq_ofNat_of_zero_le hn0
  rw [hk] at hn1 hpr HW ⊢
  obtain ⟨mb, D, vs, h, hS⟩ := h
  obtain ⟨v, hv, cv, zv, hrow⟩ := h.cell k (by omega)
  have hg := h.foot_lt (.inl rfl)
  have c0 := h.cell0
  have hap := h.ar k v
  have hlk := h.look2 hx
  rw [hitof, hlk0, hk] at hlk
  have hln : (row L (k : Nat)).length ≤ 9000 := by have := row_len L (k : Nat); have := h.ln; omega
  have HWO := Lib.hid (fun (W : World) (hr : W.ownsRow 0 3 1 v (row L (k : Nat)).length (flat (row L (k : Nat)))) => without_any v (row L (k : Nat)) t.id W hr (by omega))
  obtain ⟨A, cc, rfl, hlc, hcm, -⟩ := row_cells hrow
  have hgm : g ≠ mb := fun e => h.ap e.symm
  have H := Lib.hid h; have HS := Lib.hid hS; have HV := Lib.hid hv; have HR := Lib.hid hrow
  have HNE : Hid (∀ b, b = g ∨ b = mb → (Value.slice A (row L (k : Nat)).length cc).ownBlock ≠ some b) := Lib.hid (fun b hb e => by obtain ⟨h1, h2⟩ := hap b hv e; rcases hb with h | h; exact h1 h; exact h2 h)
  have HT := Lib.hid ht; have HX := Lib.hid hx; have HPR := Lib.hid hpr
  have hk96 : (k : Int) < 96 := by omega
  have hxk := Go.Maps.keyOf_int_mk (P := Try.prog) Try.underlying3 hx
  have hwn' : (t.wn == 0) = false := by simpa using hwn
  have hml := h.foot_lt (.inr (.inl rfl))
  clear h hS hv hap hrow hlc hcm hx hok hit hlk0 hitof hmw hn0 hn1 hpr ht hwn
  obtain ⟨ti, tw, tn, tp⟩ := t
  simp only at hlk hxk hwn' HWO hk HT HX HPR ⊢
  have HK := Lib.hid hk
  clear hk
  generalize wants L (k : Nat) = ws at *
  generalize hM : (row L (k : Nat)).length = ln at *
  have HM := Lib.hid hM
  clear hM
  have B1 : Hid (Below w.heap.size w (w.alloc (.cells #[.int .i64 k, .int .i64 tw] 78))) := Lib.hid ((Below.refl _ w).alloc (Nat.le_refl _) _)
  have K1 : Hid ((w.alloc (.cells #[.int .i64 k, .int .i64 tw] 78)).heap[w.heap.size]? = some (.cells #[.int .i64 k, .int .i64 tw] 78 (0, 0))) := Lib.hid (new_block _ _)
  go_enter Try.func17, Try.ntmps17
  go_upto_region 6 with (go_at_call 33; refine NO.out.mono ?_; rintro e w1 ⟨rfl, rfl⟩)
  clear hlk
  generalize w.alloc (.cells #[.int .i64 k, .int .i64 tw] 78) = w1 at *
  generalize hbx : w.heap.size = bx at *
  have HBX := Lib.hid hbx
  clear hbx
  have d0 := (B1.out.cell (p := ⟨g, 0, none⟩) hg).trans c0
  have d1 := (B1.out.cell (p := ⟨g, 1 + k, none⟩) hg).trans cv
  have zd1 := (B1.out.frozen (p := ⟨g, 1 + k, none⟩) hg).trans zv
  have x0 := (cell_of K1.out 0).1
  simp at x0
  have MP : Hid (w1.ownsMap Try.prog 3 plR mb N D) := Lib.hid (map_same H.out.mp (B1.out.block _ hml))
  have HRB : Hid (∀ b, (Value.slice A ln cc).ownBlock = some b → b < bx) := Lib.hid (fun b e => by rw [← HBX.out]; exact (HR.out.lt b e).2)
  have hb1 : bx < w1.heap.size := lt_of_block K1.out
  have hbm : bx ≠ mb := by omega
  clear c0 cv zv
  go_upto_region 8 with (first | (go_at_call 13; refine (HW.out _ B1.out).mono ?_; rintro e w2 ⟨rfl, rfl⟩) | (at_delete; refine wpList_delete_own _ rfl _ _ 65 3 rfl 78 key3 Try.underlying65 plR mb N D rfl MP.out _ _ rfl hxk ?_; intro w4 m4 t4; have M4 := Lib.hid m4; have G4 := Lib.hid t4.grown; have R4 : Hid (w4.ownsRow 0 3 1 (.slice A ln cc) ln (flat (row L (k : Nat)))) := Lib.hid (row_same HR.out (fun b e => (G4.out.block b (Nat.lt_trans (HRB.out b e) hb1) (fun e2 => HNE.out mb (.inr rfl) (by injection e2 with e2; rw [← e2]; exact e))).trans (B1.out.block b (HRB.out b e)))); have x4 := (far_cell G4.out x0 (by exact hbm)).1; have y1 := far_cell G4.out d1 (by exact hgm); obtain ⟨y1, zy1⟩ := y1; have zy1 := zy1.trans zd1; clear m4 t4))
  have hs4 := G4.out.size
  simp only [Act.put]
  go_cut [] (fun wx => Wth w4 g (1 + k) (cutL (row L (k : Nat)) ti) wx)
  case first =>
    go_region_with (first | (go_at_call 36; refine (HWO.out _ (by exact R4.out)).mono ?_; rintro e w5 ⟨⟨v', rfl, r5⟩, b5⟩; obtain ⟨A5, c5, rfl, -⟩ := row_form r5; have B5 : Hid (Below w4.heap.size w4 w5) := Lib.hid (by first | exact b5 | exact ⟨b5.os, b5.tape, b5.output, b5.size, b5.block⟩); have R5 : Hid (w5.ownsRow w4.heap.size 3 1 _ _ _) := Lib.hid r5; have y0 := (B5.out.cell (p := ⟨bx, 0, none⟩) (cell_lt x4).1).trans x4; have y2 := (B5.out.cell (p := ⟨g, 1 + k, none⟩) (cell_lt y1).1).trans y1; have z2 := (B5.out.frozen (p := ⟨g, 1 + k, none⟩) (cell_lt y1).1).trans zy1; clear r5 b5))
    all_goals (go_wp2_with fail; go_meet; exact ⟨A5, c5, w5, rfl, B5.out, R5.out⟩)
  case rest =>
    obtain ⟨A5, c5, w5, rfl, b5, r5⟩ := hcut
    have B5 := Lib.hid b5; have R5 := Lib.hid r5
    clear b5 r5
    have q5 : w5.heap[g]? = some (.cells (Value.map (some mb) :: vs).toArray 69 (0, 0)) :=
      (B5.out.block g (by omega)).trans ((G4.out.block g (by omega) (fun e => hgm (by injection e))).trans ((B1.out.block g hg).trans H.out.q))
    have F5 : Fr (fun b => (Value.slice A ln cc).ownBlock = some b ∨ b = g ∨ b = mb) w (w5.setCell ⟨g, 1 + k, none⟩ (.slice A5 (cutL (row L (k : Nat)) ti).length c5)) :=
      (((Fr.of_below (by rw [HBX.out]; exact B1.out)).tr (Fr.of_grown G4.out (fun b e => .inr (.inr (by injection e with e; exact e.symm))))).tr (Fr.of_below B5.out)).tr (Fr.of_grown (grown_set w5 g (1 + k) _) (fun b e => .inr (.inl (by injection e with e; exact e.symm))))
    have hfresh : ∀ b', (Value.slice A5 (cutL (row L (k : Nat)) ti).length c5).ownBlock = some b' → (Value.slice A ln cc).ownBlock = some b' ∨ w.heap.size ≤ b' := fun b' e => .inr (by have := (R5.out.lt b' e).1; rw [HBX.out]; omega)
    have M5 : (w5.setCell ⟨g, 1 + k, none⟩ (.slice A5 (cutL (row L (k : Nat)) ti).length c5)).ownsMap Try.prog 3 plR mb N (D.del (.int .i64 ti)) :=
      map_same M4.out ((set_other _ (fun e => hgm e.symm) _ _).trans (B5.out.block mb M4.out.lt))
    have hown5 : (w5.setCell ⟨g, 1 + k, none⟩ (.slice A5 (cutL (row L (k : Nat)) ti).length c5)).ownsRow 0 3 1 (.slice A5 (cutL (row L (k : Nat)) ti).length c5) (row (cutL L ti) (k : Nat)).length (flat (row (cutL L ti) (k : Nat))) := by
      rw [row_cut]
      exact row_same (row_base R5.out) (fun b e => set_other _ (by have := (R5.out.lt b e).1; omega) _ _)
    have hpr := HPR.out
    obtain ⟨p1, p2, p3⟩ := cut_map (H.out.mp.tidy key3) H.out.ok ⟨ti, tw, tn, tp⟩ HT.out HX.out H.out.hd H.out.ad H.out.sz
    obtain ⟨S', q', st⟩ := turn H.out HS.out k _ _ HV.out F5 (set_place q5 _) hown5 hfresh M5 (fun r hr => row_cut_other H.out.ok HT.out (by simp only; rw [hpr]; omega)) p1 p2 p3 (H.out.ok.cut ti) (by have := H.out.ln; have := List.length_filter_le (fun t : It => t.id != ti) L; unfold cutL; omega)
    have x6 : (w5.setCell ⟨g, 1 + k, none⟩ (.slice A5 (cutL (row L (k : Nat)) ti).length c5)).cell? ⟨bx, 0, none⟩ = some (.int .i64 k) := by
      have h1 : (w5.setCell ⟨g, 1 + k, none⟩ (.slice A5 (cutL (row L (k : Nat)) ti).length c5)).heap[bx]? = w4.heap[bx]? := (set_other _ (by omega) _ _).trans (B5.out.block bx (by omega))
      exact (World.cell?_of_block (a := ⟨bx, 0, none⟩) h1).trans x4
    have Q6 := Lib.hid q'; have ST := Lib.hid st
    clear q' st F5 hfresh M5 hown5 q5 p1 p2 p3 x4 y1 zy1 d0 d1 zd1 x0
    generalize w5.setCell ⟨g, 1 + k, none⟩ (.slice A5 (cutL (row L (k : Nat)) ti).length c5) = w6 at *
    have HW6 := Lib.hid (Wants_below Q6.out (by omega) k)
    generalize hw2 : wants (cutL L ti) (k : Nat) = ws2 at *
    have HW2 := Lib.hid hw2
    clear hw2
    have z0 : ∀ n : Aft w6, n.val.cell? ⟨bx, 0, none⟩ = some (.int .i64 k) := fun n => (n.property.cell (p := ⟨bx, 0, none⟩) (cell_lt x6).1).trans x6
    go_upto_region 9 with (fail)
    refine wp_region_aft (by kernel_rfl) (by kernel_rfl) (Below.refl _ w6) ?_
    repeat (any_goals (first | go_big_quiet_step ((go_at_call 13; exact quiet_call _ (HW6.out _ (Aft.property _)))) | quiet_step ((go_at_call 13; exact quiet_call _ (HW6.out _ (Aft.property _))))))
    refine wpQuiet_nil ?_
    intro _ hw'
    obtain ⟨⟨w7, b7⟩, hw''⟩ := hw'
    subst hw''
    have B7 := Lib.hid b7
    clear b7 z0 x6
    go_wp2_with fail
    refine bodyPost_ret (v := .tuple #[.int .i64 k, .int .i64 ws, .int .i64 ws2, .int .i64 0]) (by simp [results, Try.results17, go_sem]) rfl ⟨by rw [HW2.out], ?_⟩
    exact ⟨S', Q6.out.below B7.out, ST.out.trans (Stp.of_below B7.out)⟩
end Go.Proofs.Ytllolfbjmpaamaa
