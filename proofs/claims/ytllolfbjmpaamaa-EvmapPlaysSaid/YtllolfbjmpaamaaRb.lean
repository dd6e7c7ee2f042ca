/- The reference's map: Check, Add, AddSignal. -/
import Derived.Test.YtllolfbjmpaamaaRa
import Derived.Test.YtllolfbjmpaamaaHm
import Derived.Test.YtllolfbjmpaamaaCm
namespace Go.Proofs.Ytllolfbjmpaamaa
open Go.RowKit
set_option linter.unusedSimpArgs false
set_option linter.unusedVariables false
set_option maxRecDepth 100000

theorem Rf.turn {w w5 : World} {r : Nat} {v v' : Value} {N N' : Nat} {L L' : List It} (h : Rf w r v N L) (own : w5.ownsRow 0 83 3 v' L'.length (flat3 L')) (hg : w.grownBy w5 v.ownBlock) (hv : ∀ b, v'.ownBlock = some b → v.ownBlock = some b ∨ w.heap.size ≤ b) (ok : Ok L') (ln : L'.length ≤ N') :
    Rf (w5.setCell ⟨r, 0, none⟩ v') r v' N' L' ∧ Stp (RFoot r v) w (RFoot r v') (w5.setCell ⟨r, 0, none⟩ v') := by
  have hr := lt_of_block h.q
  have hne : ∀ b, v'.ownBlock = some b → b ≠ r := fun b e => by
    rcases hv b e with h1 | h1
    · exact h.x b h1
    · omega
  have q5 := (hg.block r hr (fun e => h.x r e.symm rfl)).trans h.q
  refine ⟨⟨?_, row_same own (fun b e => set_other _ (hne b e) _ _), hne, ok, ln⟩, ⟨hg.os, hg.tape, hg.output, by simpa [World.setCell] using hg.size, fun b hb hn => ?_⟩, fun b hb => ?_⟩
  · rw [set_block q5 0 v']
    rfl
  · exact (set_other _ (fun e => hn (.inl e)) _ _).trans (hg.block b hb (fun e => hn (.inr e.symm)))
  · rcases hb with rfl | e
    · exact .inl (.inl rfl)
    · rcases hv b e with h1 | h1
      · exact .inl (.inr h1)
      · exact .inr h1

theorem xor_toI (a b : Int) : bits .xor .i64 a b = toI (toB a ^^^ toB b) := rfl
theorem edge_eq (a b : Int) : bits .and .i64 (bits .xor .i64 a b) 32 = 0 ↔ bits .and .i64 a 32 = bits .and .i64 b 32 := by
  rw [xor_toI, and_toI, and_toI, and_toI, toB_toI]
  have key : ∀ u v : BitVec 64, toI u = toI v ↔ u = v := fun u v => ⟨fun h => by rw [← toB_toI u, h, toB_toI], fun h => by rw [h]⟩
  rw [show (0 : Int) = toI 0#64 by decide, key, key]
  generalize toB a = x
  generalize toB b = y
  generalize toB 32 = z
  constructor
  · intro h
    apply BitVec.eq_of_getElem_eq
    intro i hi
    have this : ((x ^^^ y) &&& z)[i]'hi = (0#64)[i]'hi := by rw [h]
    rw [BitVec.getElem_and, BitVec.getElem_xor, BitVec.getElem_zero] at this
    rw [BitVec.getElem_and, BitVec.getElem_and]
    revert this
    generalize x[i]'hi = p
    generalize y[i]'hi = q
    generalize z[i]'hi = m
    cases p <;> cases q <;> cases m <;> simp
  · intro h
    apply BitVec.eq_of_getElem_eq
    intro i hi
    have this : (x &&& z)[i]'hi = (y &&& z)[i]'hi := by rw [h]
    rw [BitVec.getElem_and, BitVec.getElem_and] at this
    rw [BitVec.getElem_and, BitVec.getElem_xor, BitVec.getElem_zero]
    revert this
    generalize x[i]'hi = p
    generalize y[i]'hi = q
    generalize z[i]'hi = m
    cases p <;> cases q <;> cases m <;> simp

/-! ### Check -/
set_option maxHeartbeats 2000000 in
theorem rcheck_any (w : World) (r : Nat) (v : Value) (N : Nat) (L : List It) (ev fd wn : Int) (h : Rf w r v N L) (hN : N ≤ 10000) :
    Calls Try.prog 37 #[.pointer (some ⟨r, 0, none⟩), .int .i64 ev, .int .i64 fd, .int .i64 wn] w fun e w' => e = .returned (.int .i64 (chk L ev fd wn)) ∧ Below w.heap.size w w' := by
  have HM := Lib.hid (rmay_any wn w)
  have HF := Lib.hid (fun (W : World) (hb : Below w.heap.size w W) => h.below hb)
  have hok := h.ok
  have hln := h.ln
  have hw64 : 0 ≤ wants L fd ∧ wants L fd < 64 := by
    unfold wants
    obtain ⟨h1, h2, _⟩ := wntL_b (ofL L fd) (fun t ht => by
      have hm : t ∈ L := by
        unfold ofL at ht
        split at ht
        · exact (mem_row.1 ht).1
        · exact absurd ht (List.not_mem_nil)
      have := (hok.b t hm).wants; omega)
    exact ⟨h1, h2⟩
  unfold chk
  by_cases hfd : 0 ≤ fd ∧ fd ≤ 95
  · by_cases hmw : MayW wn
    · rw [if_neg (fun h => h.elim (fun h => h hfd) (fun h => h hmw))]
      have hne : (wn == 0) = false := by
        rw [beq_eq_false_iff_ne]; unfold MayW at hmw; omega
      have hmay : decide (wn = 0 ∨ MayW wn) = true := by simp [hmw]
      rw [hmay] at HM
      obtain ⟨hf1, hf2⟩ := hfd
      cases hl : look L ev with
      | some t =>
        have HFY := Lib.hid (fun (W : World) (hb : Below w.heap.size w W) => find_yes W r v N L ev t (HF.out W hb) hN hl)
        have hp := (plc_of_look hl).1
        clear h hok hmw hl hw64
        generalize plc L ev = p at *
        rw [if_pos (by rfl)]
        go_enter Try.func37, Try.ntmps37
        go_wp2_with fail
        refine HM.out.mono ?_
        rintro e w1 ⟨rfl, b1⟩
        have B1 := Lib.hid b1
        clear b1
        go_wp2_with fail
        refine (HFY.out _ B1.out).mono ?_
        rintro e w2 ⟨rfl, rfl⟩
        go_wp2_with fail
        go_ret
        exact ⟨rfl, B1.out⟩
      | none =>
        have HFN := Lib.hid (fun (W : World) (hb : Below w.heap.size w W) => find_no W r v N L ev (HF.out W hb) hN hl)
        have HW := Lib.hid (fun (W : World) (hb : Below w.heap.size w W) => rwants_any W r v N L fd (HF.out W hb) hN)
        obtain ⟨k, rfl⟩ := Int.eq_ofNat_of_zero_le hf1
        have hwp := wants_pos hok (show k ≤ 95 by omega)
        have hww : wants L (k : Nat) = wntL (row L (k : Nat)) := by unfold wants; rw [of_row L (by omega)]
        have hee := edge_eq (wants L (k : Nat)) wn
        rw [← hww]
        clear h hok hmw hl hww
        rw [if_neg (by simp)]
        generalize wants L (k : Nat) = ws at *
        generalize (row L (k : Nat)).length = rl at *
        by_cases hws : ws = 0
        · have h0 := hwp.1 hws
          rw [if_neg (fun h => by omega)]
          subst hws
          clear hwp hee h0
          go_enter Try.func37, Try.ntmps37
          go_wp2_with fail
          refine HM.out.mono ?_
          rintro e w1 ⟨rfl, b1⟩
          have B1 := Lib.hid b1
          clear b1
          go_wp2_with fail
          refine (HFN.out _ B1.out).mono ?_
          rintro e w2 ⟨rfl, rfl⟩
          go_wp2_with fail
          refine (HW.out _ B1.out).mono ?_
          rintro e w2 ⟨rfl, rfl⟩
          go_wp2_with fail
          go_ret
          exact ⟨rfl, B1.out⟩
        · have hrl : 0 < rl := by
            have : ¬ rl = 0 := fun e => hws (hwp.2 e)
            omega
          have hz : (ws != 0) = true := by simpa using hws
          by_cases he : bits .and .i64 (bits .xor .i64 ws wn) 32 = 0
          · rw [if_neg (fun h => h.2 he)]
            have hx : (bits .and .i64 ws 32 != bits .and .i64 wn 32) = false := by rw [hee.1 he]; simp
            clear hwp hee he
            go_enter Try.func37, Try.ntmps37
            go_wp2_with fail
            refine HM.out.mono ?_
            rintro e w1 ⟨rfl, b1⟩
            have B1 := Lib.hid b1
            clear b1
            go_wp2_with fail
            refine (HFN.out _ B1.out).mono ?_
            rintro e w2 ⟨rfl, rfl⟩
            go_wp2_with fail
            refine (HW.out _ B1.out).mono ?_
            rintro e w2 ⟨rfl, rfl⟩
            go_wp2_with fail
            go_ret
            exact ⟨rfl, B1.out⟩
          · rw [if_pos ⟨hrl, he⟩]
            have hx : (bits .and .i64 ws 32 != bits .and .i64 wn 32) = true := by
              rw [bne_iff_ne]; exact fun h => he (hee.2 h)
            clear hwp hee he
            go_enter Try.func37, Try.ntmps37
            go_wp2_with fail
            refine HM.out.mono ?_
            rintro e w1 ⟨rfl, b1⟩
            have B1 := Lib.hid b1
            clear b1
            go_wp2_with fail
            refine (HFN.out _ B1.out).mono ?_
            rintro e w2 ⟨rfl, rfl⟩
            go_wp2_with fail
            refine (HW.out _ B1.out).mono ?_
            rintro e w2 ⟨rfl, rfl⟩
            go_wp2_with fail
            go_ret
            exact ⟨rfl, B1.out⟩
    · rw [if_pos (.inr hmw)]
      obtain ⟨hf1, hf2⟩ := hfd
      by_cases h0 : wn = 0
      case' pos =>
        have hz : (wn == 0) = true := by simpa using h0
        have hmay : decide (wn = 0 ∨ MayW wn) = true := by simp [h0]
      case' neg =>
        have hz : (wn == 0) = false := by simpa using h0
        have hmay : decide (wn = 0 ∨ MayW wn) = false := by simp [h0, hmw]
      all_goals
        rw [hmay] at HM
        clear h hok hmw h0 hmay hw64
        go_enter Try.func37, Try.ntmps37
        go_wp2_with fail
        refine HM.out.mono ?_
        rintro e w1 ⟨rfl, b1⟩
        have B1 := Lib.hid b1
        clear b1
        go_wp2_with fail
        go_ret
        exact ⟨rfl, B1.out⟩
  · rw [if_pos (.inl hfd)]
    by_cases h0 : fd < 0
    case' neg => have h1 : 95 < fd := by omega
    all_goals
      clear h hok hfd hw64
      generalize decide (wn = 0 ∨ MayW wn) = mb at *
      go_enter Try.func37, Try.ntmps37
      go_wp2_with fail
      refine HM.out.mono ?_
      rintro e w1 ⟨rfl, b1⟩
      have B1 := Lib.hid b1
      clear b1
      go_wp2_with fail
      go_ret
      exact ⟨rfl, B1.out⟩

/-! ### Add -/
theorem radd_bad (w : World) (r : Nat) (v : Value) (N : Nat) (L : List It) (ev fd wn : Int) (h : Rf w r v N L) (hN : N ≤ 9000) (hck : chk L ev fd wn ≠ 0) :
    Calls Try.prog 20 #[.pointer (some ⟨r, 0, none⟩), .int .i64 ev, .int .i64 fd, .int .i64 wn] w fun e w' => e = .returned (.tuple #[.int .i64 0, .int .i64 0, .int .i64 (chk L ev fd wn)]) ∧ Below w.heap.size w w' := by
  have HC := Lib.hid (rcheck_any w r v N L ev fd wn h (by omega))
  have hne : (chk L ev fd wn != 0) = true := by simpa using hck
  clear h hck
  generalize chk L ev fd wn = c at *
  go_enter Try.func20, Try.ntmps20
  go_wp2_with fail
  refine HC.out.mono ?_
  rintro e w1 ⟨rfl, b1⟩
  go_wp2_with fail
  exact bodyPost_ret (v := .tuple #[.int .i64 0, .int .i64 0, .int .i64 c]) (by simp [results, Try.results20, go_sem]) rfl ⟨rfl, b1⟩

theorem add_facts {L : List It} {ev fd wn : Int} (hck : chk L ev fd wn = 0) : ofL (L ++ [⟨ev, wn, fd, fd⟩]) fd = ofL L fd ++ [⟨ev, wn, fd, fd⟩] ∧ wants (L ++ [⟨ev, wn, fd, fd⟩]) fd = bits .or .i64 (wants L fd) wn := by
  obtain ⟨hfd, hmw, hlk⟩ := chk_zero hck
  have eo : ofL (L ++ [⟨ev, wn, fd, fd⟩]) fd = ofL L fd ++ [⟨ev, wn, fd, fd⟩] := by
    unfold ofL
    rw [if_pos hfd, if_pos hfd]
    exact row_snoc_same L ⟨ev, wn, fd, fd⟩
  exact ⟨eo, by unfold wants; rw [eo, wntL_snoc]⟩

set_option maxHeartbeats 4000000 in
theorem radd_ok (w : World) (r : Nat) (v : Value) (N : Nat) (L : List It) (ev fd wn : Int) (h : Rf w r v N L) (hN : N ≤ 9000) (hev : (Lit.int .i64 ev).wf = true) (hck : chk L ev fd wn = 0) :
    Calls Try.prog 20 #[.pointer (some ⟨r, 0, none⟩), .int .i64 ev, .int .i64 fd, .int .i64 wn] w fun e w' => e = .returned (.tuple #[.int .i64 (wants L fd), .int .i64 (bits .or .i64 (wants L fd) wn), .int .i64 0]) ∧ ∃ v', Rf w' r v' (N + 1) (L ++ [⟨ev, wn, fd, fd⟩]) ∧ Stp (RFoot r v) w (RFoot r v') w' := by
  obtain ⟨i83, hi0, hz0, hz1, hz2⟩ := info_parts info83
  have I83 := Lib.hid hi0; have Z83 := Lib.hid hz0; have S83 := Lib.hid hz1; have Y83 := Lib.hid hz2
  clear hi0 hz0 hz1 hz2
  have HC := rcheck_any w r v N L ev fd wn h (by omega)
  rw [hck] at HC
  have HC := Lib.hid HC
  obtain ⟨hfd, hmw, hlk⟩ := chk_zero hck
  have HEW := Lib.hid (add_facts hck).2
  have hb := bd_i64 hev
  have HOK : Hid (Ok (L ++ [⟨ev, wn, fd, fd⟩])) := Lib.hid (h.ok.snoc _ (look_none.1 hlk) ⟨hb.1, hb.2, .inr ⟨hmw, hfd.1, hfd.2, rfl⟩⟩)
  have HW := Lib.hid (fun (W : World) (hb : Below w.heap.size w W) => rwants_any W r v N L fd (h.below hb) (by omega))
  have HB := Lib.hid (fun (W : World) (hb : Below w.heap.size w W) => h.below hb)
  obtain ⟨A, cc, rfl, hlc, hcm, -, -⟩ := h.at
  have HNE : Hid ((Value.slice A L.length cc).ownBlock ≠ some r) := Lib.hid (fun e => h.x r e rfl)
  have hln := h.ln
  clear h hck hlk hmw hfd hev hb
  unfold maxLen at hcm
  have HML : Hid (L.length = L.length) := Lib.hid rfl
  generalize hM : L.length = ln at *
  replace HML := Lib.hid hM
  clear hM
  go_enter Try.func20, Try.ntmps20
  go_wp2_with fail
  refine HC.out.mono ?_
  rintro e w1 ⟨rfl, b1⟩
  have HH := Lib.hid (HB.out _ b1)
  have B1 := Lib.hid b1
  clear b1
  go_wp2_with fail
  refine (HW.out _ B1.out).mono ?_
  rintro e w2 ⟨rfl, rfl⟩
  obtain ⟨q1, zq1⟩ := HH.out.cells
  have HO := HH.out.o
  rw [HML.out] at HO
  have HO := Lib.hid HO
  go_wp2_with (at_builtin; refine wpList_append_lies _ rfl _ _ 47 rfl 0 83 i83 _ 3 24 Try.underlying47 I83.out Z83.out S83.out Y83.out rfl (by omega) _ ln (flat3 L) rfl (HO.out.alloc _) ⟨w1.heap.size, 0, none⟩ 1 1 [.int .i64 ev, .int .i64 fd, .int .i64 wn] rfl rfl (World.news_of_block (cs := #[.int .i64 ev, .int .i64 fd, .int .i64 wn]) (t := 83) (fr := (0, 0)) (by exact new_block _ _)) (by simp [Value.oneCell']) (by omega) (by unfold maxLen; omega) (by omega) (Nat.zero_le _) (w1.heap.size + 1) (by simp) ?_; intro gg cap w3 own2 gr2 at2 lt2; have GR := Lib.hid gr2; have OW := Lib.hid own2; have AT := Lib.hid at2; clear own2 gr2 at2; have y2 := far_row GR.out (by exact q1) (by exact HNE.out); obtain ⟨y2, z2⟩ := y2; have z2 := z2.trans zq1)
  have G1 := grown_trans (grown_alloc w1 (.cells #[.int .i64 ev, .int .i64 fd, .int .i64 wn] 83) _) GR.out
  obtain ⟨q', st⟩ := HH.out.turn (L' := L ++ [⟨ev, wn, fd, fd⟩]) (N' := N + 1) (by rw [flat3_append, List.length_append, HML.out]; exact OW.out) G1 (fun b' e => by
    have e2 : gg = b' := by simpa [Value.ownBlock] using e
    subst e2
    rcases AT.out with h | h
    · exact .inl h
    · exact .inr (by omega)) HOK.out (by have := HH.out.ln; simp; omega)
  refine (rwants_any _ r _ (N + 1) _ fd q' (by omega)).mono ?_
  rw [HEW.out]
  rintro e w4 ⟨rfl, rfl⟩
  go_wp2_with fail
  exact bodyPost_ret (v := .tuple #[.int .i64 (wants L fd), .int .i64 (bits .or .i64 (wants L fd) wn), .int .i64 0]) (by simp [results, Try.results20, go_sem]) rfl ⟨rfl, _, q', (Stp.of_below B1.out).trans st⟩

/-! ### AddSignal -/
theorem ras_bad (w : World) (r : Nat) (v : Value) (N : Nat) (L : List It) (ev sg : Int) (h : Rf w r v N L) (hN : N ≤ 9000) (hne : asE L ev sg ≠ 0) :
    Calls Try.prog 22 #[.pointer (some ⟨r, 0, none⟩), .int .i64 ev, .int .i64 sg] w fun e w' => e = .returned (.tuple #[.bool false, .int .i64 (asE L ev sg)]) ∧ Below w.heap.size w w' := by
  unfold asE at hne ⊢
  by_cases hsg : 1 ≤ sg ∧ sg ≤ 31
  · rw [if_neg (fun h => h hsg)] at hne ⊢
    cases hl : look L ev with
    | none => rw [hl] at hne; exact absurd rfl hne
    | some t =>
      have HFY := Lib.hid (find_yes w r v N L ev t h (by omega) hl)
      have hp := (plc_of_look hl).1
      have hln := h.ln
      rw [if_pos (by rfl)]
      obtain ⟨hs1, hs2⟩ := hsg
      clear h hl hne
      generalize plc L ev = p at *
      go_enter Try.func22, Try.ntmps22
      go_wp2_with fail
      refine HFY.out.mono ?_
      rintro e w1 ⟨rfl, rfl⟩
      go_wp2_with fail
      exact bodyPost_ret (v := .tuple #[.bool false, .int .i64 180]) (by simp [results, Try.results22, go_sem]) rfl ⟨rfl, Below.refl _ _⟩
  · rw [if_pos hsg]
    by_cases h1 : sg < 1
    case' neg => have h2 : 31 < sg := by omega
    all_goals
      clear hsg h hne
      go_enter Try.func22, Try.ntmps22
      go_wp2_with fail
      exact bodyPost_ret (v := .tuple #[.bool false, .int .i64 100]) (by simp [results, Try.results22, go_sem]) rfl ⟨rfl, Below.refl _ _⟩

set_option maxHeartbeats 4000000 in
theorem ras_ok (w : World) (r : Nat) (v : Value) (N : Nat) (L : List It) (ev sg : Int) (h : Rf w r v N L) (hN : N ≤ 9000) (hev : (Lit.int .i64 ev).wf = true) (hz : asE L ev sg = 0) :
    Calls Try.prog 22 #[.pointer (some ⟨r, 0, none⟩), .int .i64 ev, .int .i64 sg] w fun e w' => e = .returned (.tuple #[.bool ((sigL L sg).length == 0), .int .i64 0]) ∧ ∃ v', Rf w' r v' (N + 1) (L ++ [⟨ev, 0, sg, sg + 96⟩]) ∧ Stp (RFoot r v) w (RFoot r v') w' := by
  obtain ⟨i83, hi0, hz0, hz1, hz2⟩ := info_parts info83
  have I83 := Lib.hid hi0; have Z83 := Lib.hid hz0; have S83 := Lib.hid hz1; have Y83 := Lib.hid hz2
  clear hi0 hz0 hz1 hz2
  obtain ⟨⟨hs1, hs2⟩, hlk⟩ := asE_zero hz
  have HF := Lib.hid (find_no w r v N L ev h (by omega) hlk)
  have hb := bd_i64 hev
  have HOK : Hid (Ok (L ++ [⟨ev, 0, sg, sg + 96⟩])) := Lib.hid (h.ok.snoc _ (look_none.1 hlk) ⟨hb.1, hb.2, .inl ⟨rfl, hs1, hs2, rfl⟩⟩)
  have HO1 := rof_any w r v N L sg true h (by omega)
  rw [rof_sig h.ok] at HO1
  have HO1 := Lib.hid HO1
  have HB := Lib.hid (fun (W : World) (hb : Below w.heap.size w W) => h.below hb)
  obtain ⟨A, cc, rfl, hlc, hcm, -, -⟩ := h.at
  have HNE : Hid ((Value.slice A L.length cc).ownBlock ≠ some r) := Lib.hid (fun e => h.x r e rfl)
  have hln := h.ln
  have hsl := sigL_len L sg
  clear h hz hlk hev hb
  unfold maxLen at hcm
  generalize hsn : (sigL L sg).length = sn at *
  clear hsn
  have HML : Hid (L.length = L.length) := Lib.hid rfl
  generalize hM : L.length = ln at *
  replace HML := Lib.hid hM
  clear hM
  go_enter Try.func22, Try.ntmps22
  go_wp2_with fail
  refine HF.out.mono ?_
  rintro e w0 ⟨rfl, rfl⟩
  go_wp2_with fail
  refine HO1.out.mono ?_
  rintro e w1 ⟨⟨u, rfl, ru⟩, b1⟩
  obtain ⟨A1, c1, rfl, -⟩ := row_form ru
  have HH := Lib.hid (HB.out _ b1)
  have B1 := Lib.hid b1
  clear b1 ru
  obtain ⟨q1, zq1⟩ := HH.out.cells
  have HO := HH.out.o
  rw [HML.out] at HO
  have HO := Lib.hid HO
  go_wp2_with (at_builtin; refine wpList_append_lies _ rfl _ _ 47 rfl 0 83 i83 _ 3 24 Try.underlying47 I83.out Z83.out S83.out Y83.out rfl (by omega) _ ln (flat3 L) rfl (HO.out.alloc _) ⟨w1.heap.size, 0, none⟩ 1 1 [.int .i64 ev, .int .i64 sg, .int .i64 0] rfl rfl (World.news_of_block (cs := #[.int .i64 ev, .int .i64 sg, .int .i64 0]) (t := 83) (fr := (0, 0)) (by exact new_block _ _)) (by simp [Value.oneCell']) (by omega) (by unfold maxLen; omega) (by omega) (Nat.zero_le _) (w1.heap.size + 1) (by simp) ?_; intro gg cap w3 own2 gr2 at2 lt2; have GR := Lib.hid gr2; have OW := Lib.hid own2; have AT := Lib.hid at2; clear own2 gr2 at2; have y2 := far_row GR.out (by exact q1) (by exact HNE.out); obtain ⟨y2, z2⟩ := y2; have z2 := z2.trans zq1)
  have G1 := grown_trans (grown_alloc w1 (.cells #[.int .i64 ev, .int .i64 sg, .int .i64 0] 83) _) GR.out
  obtain ⟨q', st⟩ := HH.out.turn (L' := L ++ [⟨ev, 0, sg, sg + 96⟩]) (N' := N + 1) (by rw [flat3_append, List.length_append, HML.out]; exact OW.out) G1 (fun b' e => by
    have e2 : gg = b' := by simpa [Value.ownBlock] using e
    subst e2
    rcases AT.out with h | h
    · exact .inl h
    · exact .inr (by omega)) HOK.out (by have := HH.out.ln; simp; omega)
  refine bodyPost_ret (v := .tuple #[.bool ((sn : Int) == 0), .int .i64 0]) (by simp [results, Try.results22, go_sem]) rfl ⟨?_, _, q', (Stp.of_below B1.out).trans st⟩
  have : ((sn : Int) == 0) = (sn == 0) := by
    cases sn with
    | zero => rfl
    | succ n => rw [show (n + 1 == 0) = false from rfl, beq_eq_false_iff_ne]; omega
  rw [this]
end Go.Proofs.Ytllolfbjmpaamaa
