/- The reference's queues: Move. -/
import Derived.Test.YtncfggcbdliepaaRc
namespace Go.Proofs.Ytncfggcbdliepaa
open Go.RowKit
set_option linter.unusedSimpArgs false
set_option linter.unusedVariables false
set_option maxRecDepth 100000

/-- Behind 'q.L = append(q.L, x)'. -/
def Apd4 (w2 : World) (v : Value) (r : Nat) (cs : Array Value) (ln : Nat) (xs : List Value) (wr : World) : Prop :=
  ∃ gg cap w3, wr = w3.setCell ⟨r, 1, none⟩ (.slice (some ⟨gg, 0, none⟩) (ln + 1) cap) ∧ (w2.alloc (.cells cs 58)).grownBy w3 v.ownBlock ∧ w3.ownsRow 0 58 4 (.slice (some ⟨gg, 0, none⟩) (ln + 1) cap) (ln + 1) xs ∧ (v.ownBlock = some gg ∨ gg = w2.heap.size + 1)

set_option maxHeartbeats 2000000 in
theorem rmove_none (w : World) (r : Nat) (v : Value) (N m : Nat) (L : List It) (x pr : Int) (h : Rf w r v N m L) (hN : N ≤ 10000) (hl : look L x = none) :
    Calls Try.prog 21 #[.pointer (some ⟨r, 0, none⟩), .int .i64 x, .int .i64 pr] w fun e w' => e = .returned (.int .i64 2) ∧ w = w' := by
  have HF := Lib.hid (find_no w r v N m L x h hN hl)
  clear h hl
  go_enter Try.func21, Try.ntmps21
  go_wp2_with fail
  refine HF.out.mono ?_
  rintro e w1 ⟨rfl, rfl⟩
  go_wp2_with fail
  go_ret
  exact ⟨rfl, rfl⟩
set_option maxHeartbeats 2000000 in
theorem rmove_bad (w : World) (r : Nat) (v : Value) (N m : Nat) (L : List It) (x pr : Int) (t : It) (h : Rf w r v N m L) (hN : N ≤ 10000) (hl : look L x = some t) (hp : ¬ (0 ≤ pr ∧ pr < m)) :
    Calls Try.prog 21 #[.pointer (some ⟨r, 0, none⟩), .int .i64 x, .int .i64 pr] w fun e w' => e = .returned (.int .i64 2) ∧ w = w' := by
  have HF := Lib.hid (find_yes w r v N m L x t h hN hl)
  obtain ⟨q0, -, -⟩ := h.cells
  have hp1 : 0 ≤ (plc L x : Int) := by omega
  clear h hl
  generalize plc L x = i at *
  by_cases h1 : pr < 0
  case' neg =>
    have h1 : 0 ≤ pr := by omega
    have h2 : (m : Int) ≤ pr := by omega
  all_goals
    clear hp
    go_enter Try.func21, Try.ntmps21
    go_wp2_with fail
    refine HF.out.mono ?_
    rintro e w1 ⟨rfl, rfl⟩
    go_wp2_with fail
    go_ret
    exact ⟨rfl, rfl⟩
set_option maxHeartbeats 2000000 in
theorem rmove_stay (w : World) (r : Nat) (v : Value) (N m : Nat) (L : List It) (x : Int) (t : It) (h : Rf w r v N m L) (hN : N ≤ 10000) (hl : look L x = some t) :
    Calls Try.prog 21 #[.pointer (some ⟨r, 0, none⟩), .int .i64 x, .int .i64 t.pr] w fun e w' => e = .returned (.int .i64 0) ∧ Below w.heap.size w w' := by
  have HF := Lib.hid (find_yes w r v N m L x t h hN hl)
  obtain ⟨hp1, hp2⟩ := plc_of_look hl
  have htb := h.ok.b t (look_some hl).1
  obtain ⟨q0, q1, -⟩ := h.cells
  obtain ⟨A, cc, rfl, hlc, hcm, -, -, hcell⟩ := row4_cells h.o
  obtain ⟨b, rfl, hbl, -, hW⟩ := hcell _ t hp2
  obtain ⟨⟨c0, c1, c2, c3⟩, -⟩ := hW w rfl
  obtain ⟨-, -, -, -, -, -, b7, b8⟩ := htb
  have hne : (t.pr != t.pr) = false := by simp
  clear h hl hcell hW hp2
  unfold maxLen at hcm
  obtain ⟨ti, tf, tc, tp⟩ := t
  simp only at c0 c1 c2 c3 b7 b8 hne ⊢
  generalize plc L x = i at *
  generalize L.length = ln at *
  go_enter Try.func21, Try.ntmps21
  go_wp2_with fail
  refine HF.out.mono ?_
  rintro e w1 ⟨rfl, rfl⟩
  go_wp2_with fail
  go_ret
  exact ⟨rfl, (Below.refl _ _).alloc (Nat.le_refl _) _⟩

set_option maxHeartbeats 4000000 in
theorem rmove_go (w : World) (r : Nat) (v : Value) (N m : Nat) (L : List It) (x : Int) (q : Nat) (t : It) (h : Rf w r v N m L) (hN : N ≤ 9000) (hl : look L x = some t) (hq : q < m) (hne : t.pr ≠ q) :
    Calls Try.prog 21 #[.pointer (some ⟨r, 0, none⟩), .int .i64 x, .int .i64 q] w fun e w' => e = .returned (.int .i64 0) ∧ ∃ v', Rf w' r v' (N + 1) m (cutL L x ++ [⟨t.id, t.fl, t.ct, q⟩]) ∧ Stp (RFoot r v) w (RFoot r v') w' := by
  obtain ⟨i58, hi0, hz0, hz1, hz2⟩ := info_parts info58
  have I58 := Lib.hid hi0; have Z58 := Lib.hid hz0; have S58 := Lib.hid hz1; have Y58 := Lib.hid hz2
  clear hi0 hz0 hz1 hz2
  have HF := Lib.hid (find_yes w r v N m L x t h (by omega) hl)
  obtain ⟨hp1, hp2⟩ := plc_of_look hl
  have htb := h.ok.b t (look_some hl).1
  have hxt := (look_some hl).2
  obtain ⟨q0, q1, -⟩ := h.cells
  have HCU := Lib.hid (fun (W : World) (hB : Below w.heap.size w W) => rcut_any W r v N m L x (h.below hB) (by omega))
  have HV := Lib.hid h
  obtain ⟨A, cc, rfl, hlc, hcm, -, -, hcell⟩ := row4_cells h.o
  obtain ⟨b, rfl, hbl, -, hW⟩ := hcell _ t hp2
  obtain ⟨⟨c0, c1, c2, c3⟩, -⟩ := hW w rfl
  have hnn : (t.pr != (q : Int)) = true := by simpa using hne
  have HLK : Hid (look (cutL L x) x = none) := Lib.hid (look_cut_self L x)
  have HTB := Lib.hid htb; have HXT := Lib.hid hxt
  clear h hl hcell hW hp2 hne htb hxt
  unfold maxLen at hcm
  obtain ⟨ti, tf, tc, tp⟩ := t
  simp only at c0 c1 c2 c3 hnn HTB HXT ⊢
  generalize plc L x = i at *
  generalize L.length = ln at *
  have hqm : (q : Int) < (m : Int) := by omega
  go_enter Try.func21, Try.ntmps21
  go_wp2_with fail
  refine HF.out.mono ?_
  rintro e w1 ⟨rfl, rfl⟩
  go_upto_region 6 with (fail)
  have B1 : Hid (Below w.heap.size w (w.alloc (.cells #[.int .i64 ti, .int .i64 tf, .int .i64 tc, .int .i64 tp] 58))) := Lib.hid ((Below.refl _ w).alloc (Nat.le_refl _) _)
  have K1 : Hid ((w.alloc (.cells #[.int .i64 ti, .int .i64 tf, .int .i64 tc, .int .i64 tp] 58)).heap[w.heap.size]? = some (.cells #[.int .i64 ti, .int .i64 tf, .int .i64 tc, .int .i64 tp] 58 (0, 0))) := Lib.hid (new_block _ _)
  have hxv : ¬ RFoot r (.slice (some ⟨b, 0, none⟩) ln cc) w.heap.size := fun h => by have := HV.out.foot_lt h; omega
  generalize w.alloc (.cells #[.int .i64 ti, .int .i64 tf, .int .i64 tc, .int .i64 tp] 58) = w1 at *
  generalize hbx : w.heap.size = bx at *
  have HBX := Lib.hid hbx
  clear hbx
  go_wp2_with fail
  refine (HCU.out w1 B1.out).mono ?_
  rintro e w2 ⟨rfl, v2, q2, st2⟩
  have K2 := (st2.f.block _ (lt_of_block K1.out) hxv).trans K1.out
  have hx2 : ¬ RFoot r v2 bx := fun h => by
    rcases st2.s _ h with h | h
    · exact hxv h
    · have := lt_of_block K1.out; omega
  have ST2 := Lib.hid st2
  have hc := cell_of K2
  have x0 := (hc 0).1; have x1 := (hc 1).1; have x2 := (hc 2).1; have x3 := (hc 3).1; have z3 := (hc 3).2
  simp at x0 x1 x2 x3
  clear hc st2 HCU HF
  go_upto_region 8 with (fail)
  have K3 : Hid ((w2.setCell ⟨bx, 3, none⟩ (.int .i64 q)).heap[bx]? = some (.cells #[.int .i64 ti, .int .i64 tf, .int .i64 tc, .int .i64 q] 58 (0, 0))) := Lib.hid (set_block K2 3 (.int .i64 q))
  have R3 : Hid (Rf (w2.setCell ⟨bx, 3, none⟩ (.int .i64 q)) r v2 N m (cutL L x)) := Lib.hid (q2.keep (fun b' hb' => set_other _ (fun e => hx2 (by rw [← e]; exact hb')) _ _))
  have F3 : Hid (∀ b', b' ≠ bx → (w2.setCell ⟨bx, 3, none⟩ (.int .i64 q)).heap[b']? = w2.heap[b']?) := Lib.hid (fun b' e => set_other _ e _ _)
  have Z3 : Hid ((w2.setCell ⟨bx, 3, none⟩ (.int .i64 q)).heap.size = w2.heap.size ∧ (w2.setCell ⟨bx, 3, none⟩ (.int .i64 q)).os = w2.os ∧ (w2.setCell ⟨bx, 3, none⟩ (.int .i64 q)).tape = w2.tape ∧ (w2.setCell ⟨bx, 3, none⟩ (.int .i64 q)).output = w2.output) := Lib.hid (by simp [World.setCell])
  clear K2 q2 x0 x1 x2 x3 z3 c0 c1 c2 c3 q0 q1
  generalize w2.setCell ⟨bx, 3, none⟩ (.int .i64 q) = w3 at *
  have hc := cell_of K3.out
  have x0 := (hc 0).1; have x1 := (hc 1).1; have x2 := (hc 2).1; have x3 := (hc 3).1
  simp at x0 x1 x2 x3
  obtain ⟨A2, cc2, rfl, hlc2, hcm2, -⟩ := row4_cells R3.out.o
  obtain ⟨y0, y1, zy1⟩ := R3.out.cells
  have HNE : Hid ((Value.slice A2 (cutL L x).length cc2).ownBlock ≠ some r) := Lib.hid (fun e => R3.out.x r e rfl)
  have hln2 : (cutL L x).length ≤ 9000 := by have := R3.out.ln; omega
  have HO := Lib.hid R3.out.o
  have y1a := (((Below.refl w3.heap.size w3).alloc (Nat.le_refl _) (.cells #[.int .i64 ti, .int .i64 tf, .int .i64 tc, .int .i64 q] 58)).cell (p := ⟨r, 1, none⟩) (lt_of_block R3.out.q)).trans y1
  clear hc
  unfold maxLen at hcm2
  generalize hM : (cutL L x).length = ln2 at *
  have HM := Lib.hid hM
  clear hM
  go_cut [] (fun wx => Apd4 w3 (.slice A2 ln2 cc2) r #[.int .i64 ti, .int .i64 tf, .int .i64 tc, .int .i64 q] ln2 (flat4 (cutL L x) ++ [.int .i64 ti, .int .i64 tf, .int .i64 tc, .int .i64 q]) wx)
  case first =>
    go_region_law ((refine step_append_lies _ rfl (.tmp 46) (.tmp 48) 48 rfl 0 58 i58 _ 4 32 Try.underlying48 I58.out Z58.out S58.out Y58.out rfl (by omega) (.slice A2 ln2 cc2) ln2 (flat4 (cutL L x)) (by simp [Act.eval, Act.put]) (by exact HO.out.alloc _) ⟨w3.heap.size, 0, none⟩ 1 1 [.int .i64 ti, .int .i64 tf, .int .i64 tc, .int .i64 q] (by simp [Act.eval, Act.put]) (by rfl) (World.news_of_block (cs := #[.int .i64 ti, .int .i64 tf, .int .i64 tc, .int .i64 q]) (t := 58) (fr := (0, 0)) (by exact new_block _ _)) (by simp [Value.oneCell']) (by omega) (by unfold maxLen; omega) (by omega) (Nat.zero_le _) (w3.heap.size + 1) (by simp) ?_; intro gg cap w4 own2 gr2 at2 lt2; have GR : Hid (World.grownBy (w3.alloc (.cells #[.int .i64 ti, .int .i64 tf, .int .i64 tc, .int .i64 q] 58)) w4 _) := Lib.hid (by first | exact gr2 | exact grown_undrew gr2); have OW := Lib.hid own2; have AT := Lib.hid at2; clear own2 gr2 at2; have y2 := far_row GR.out (by exact y1) (by exact HNE.out); obtain ⟨y2, z2⟩ := y2; have z2 := z2.trans (by exact zy1)))
    all_goals (go_wp2_with fail; go_meet; exact ⟨gg, cap, w4, rfl, GR.out, OW.out, AT.out⟩)
  case rest =>
    obtain ⟨gg, cap, w4, rfl, gr, ow, at'⟩ := hcut
    have GR := Lib.hid gr; have OW := Lib.hid ow; have AT := Lib.hid at'
    clear gr ow at' y0 y1 zy1 x0 x1 x2 x3
    go_wp2_with fail
    go_ret
    obtain ⟨b1, b2, b3, b4, b5, b6, b7, b8⟩ := HTB.out
    have hx := HXT.out
    (try simp only at b1 b2 b3 b4 b5 b6 hx)
    have G1 := grown_trans (grown_alloc w3 (.cells #[.int .i64 ti, .int .i64 tf, .int .i64 tc, .int .i64 q] 58) _) GR.out
    have hlk := HLK.out
    rw [← hx] at hlk
    obtain ⟨q', st⟩ := R3.out.turn (L' := cutL L x ++ [⟨ti, tf, tc, q⟩]) (N' := N + 1) (by rw [flat4_append, List.length_append, HM.out]; exact OW.out) G1 (fun b' e => by
      have e2 : gg = b' := by simpa [Value.ownBlock] using e
      subst e2
      rcases AT.out with h | h
      · exact .inl h
      · exact .inr (by omega)) (R3.out.ok.snoc _ (by have := look_none.1 HLK.out; rw [← hx] at this ⊢; exact this) ⟨b1, b2, b3, b4, b5, b6, by simp, by simp; omega⟩) (by have := R3.out.ln; simp; omega)
    have hst2 := ST2.out
    obtain ⟨e1, e2, e3, e4⟩ := Z3.out
    have hBX := HBX.out
    have st3 : Stp (RFoot r (.slice (some ⟨b, 0, none⟩) ln cc)) w (RFoot r (.slice A2 ln2 cc2)) w3 := by
      refine ⟨⟨e2.trans (hst2.f.os.trans B1.out.os), e3.trans (hst2.f.tape.trans B1.out.tape), e4.trans (hst2.f.output.trans B1.out.output), by have h1 := B1.out.size; have h2 := hst2.f.size; omega, fun b' hb' hn => ?_⟩, fun b' hb' => ?_⟩
      · have h1 := B1.out.size
        exact (F3.out b' (by omega)).trans ((hst2.f.block b' (by omega) hn).trans (B1.out.block b' (by omega)))
      · rcases hst2.s b' hb' with h | h
        · exact .inl h
        · have h1 := B1.out.size; exact .inr (by omega)
    exact ⟨rfl, _, q', st3.trans st⟩
theorem rmove_any (w : World) (r : Nat) (v : Value) (N m : Nat) (L : List It) (x pr : Int) (h : Rf w r v N m L) (hN : N ≤ 9000) :
    Calls Try.prog 21 #[.pointer (some ⟨r, 0, none⟩), .int .i64 x, .int .i64 pr] w fun e w' => e = .returned (.int .i64 (moveE m L x pr)) ∧ ∃ v', Rf w' r v' (N + 1) m (moveL m L x pr) ∧ Stp (RFoot r v) w (RFoot r v') w' := by
  unfold moveE moveL
  cases hl : look L x with
  | none =>
    rw [if_neg (by simp)]
    refine (rmove_none w r v N m L x pr h (by omega) hl).mono ?_
    rintro e w' ⟨rfl, rfl⟩
    exact ⟨rfl, v, h.mono (by omega), Stp.refl _ _⟩
  | some t =>
    by_cases hp : 0 ≤ pr ∧ pr < m
    · rw [if_pos ⟨rfl, hp⟩]
      by_cases he : t.pr = pr
      · subst he
        refine (rmove_stay w r v N m L x t h (by omega) hl).mono ?_
        rintro e w' ⟨rfl, b⟩
        refine ⟨rfl, v, ?_, Stp.of_below b⟩
        simp only
        rw [if_neg (fun h => h.2.2 rfl)]
        exact (h.below b).mono (by omega)
      · obtain ⟨q, rfl⟩ := Int.eq_ofNat_of_zero_le hp.1
        refine (rmove_go w r v N m L x q t h hN hl (by omega) he).mono ?_
        rintro e w' ⟨rfl, v', q', st⟩
        refine ⟨rfl, v', ?_, st⟩
        simp only
        rw [if_pos ⟨hp.1, hp.2, he⟩]
        exact q'
    · rw [if_neg (fun h => hp h.2)]
      refine (rmove_bad w r v N m L x pr t h (by omega) hl hp).mono ?_
      rintro e w' ⟨rfl, rfl⟩
      refine ⟨rfl, v, ?_, Stp.refl _ _⟩
      simp only
      rw [if_neg (fun h => hp ⟨h.1, h.2.1⟩)]
      exact h.mono (by omega)
end Go.Proofs.Ytncfggcbdliepaa
