/- The reference's queues: List, Put. -/
import Derived.Test.YtncfggcbdliepaaRa
import Derived.Deep.AppendLies
namespace Go.Proofs.Ytncfggcbdliepaa
open Go.RowKit
set_option linter.unusedSimpArgs false
set_option linter.unusedVariables false
set_option maxRecDepth 100000

theorem Rf.turn {w w5 : World} {r : Nat} {v v' : Value} {N N' m : Nat} {L L' : List It} (h : Rf w r v N m L) (own : w5.ownsRow 0 58 4 v' L'.length (flat4 L')) (hg : w.grownBy w5 v.ownBlock) (hv : ∀ b, v'.ownBlock = some b → v.ownBlock = some b ∨ w.heap.size ≤ b) (ok : Ok m L') (ln : L'.length ≤ N') :
    Rf (w5.setCell ⟨r, 1, none⟩ v') r v' N' m L' ∧ Stp (RFoot r v) w (RFoot r v') (w5.setCell ⟨r, 1, none⟩ v') := by
  have hr := lt_of_block h.q
  have hne : ∀ b, v'.ownBlock = some b → b ≠ r := fun b e => by
    rcases hv b e with h1 | h1
    · exact h.x b h1
    · omega
  have q5 := (hg.block r hr (fun e => h.x r e.symm rfl)).trans h.q
  refine ⟨⟨?_, row_same own (fun b e => set_other _ (hne b e) _ _), hne, ok, ln, h.m8⟩, ⟨hg.os, hg.tape, hg.output, by simpa [World.setCell] using hg.size, fun b hb hn => ?_⟩, fun b hb => ?_⟩
  · rw [set_block q5 1 v']
    rfl
  · exact (set_other _ (fun e => hn (.inl e)) _ _).trans (hg.block b hb (fun e => hn (.inr e.symm)))
  · rcases hb with rfl | e
    · exact .inl (.inl rfl)
    · rcases hv b e with h1 | h1
      · exact .inl (.inr h1)
      · exact .inr h1

set_option maxHeartbeats 2000000 in
theorem rlist_any (w : World) (r : Nat) (v : Value) (N m : Nat) (L : List It) (p : Int) (h : Rf w r v N m L) (hN : N ≤ 10000) :
    Calls Try.prog 27 #[.pointer (some ⟨r, 0, none⟩), .int .i64 p] w fun e w' => (∃ v', e = .returned v' ∧ w'.ownsRow w.heap.size 58 4 v' (row L p).length (flat4 (row L p))) ∧ Below w.heap.size w w' := by
  obtain ⟨i58, hi0, hz0, hz1, hz2⟩ := info_parts info58
  have I58 := Lib.hid hi0; have Z58 := Lib.hid hz0; have S58 := Lib.hid hz1; have Y58 := Lib.hid hz2
  clear hi0 hz0 hz1 hz2
  obtain ⟨A, c, rfl, hlc, hcm, -, -, hcell⟩ := row4_cells h.o
  obtain ⟨-, q1, -⟩ := h.cells
  have hln := h.ln
  have hr := lt_of_block h.q
  have HC : Hid (∀ k, k < L.length → ∃ (t : It) (b : Nat), L[k]? = some t ∧ A = some ⟨b, 0, none⟩ ∧ ∀ W : World, Below w.heap.size w W → W.cell? ⟨r, 1, none⟩ = some (.slice A L.length c) ∧ W.cell? ⟨b, k * 4, none⟩ = some (.int .i64 t.id) ∧ W.cell? ⟨b, k * 4 + 1, none⟩ = some (.int .i64 t.fl) ∧ W.cell? ⟨b, k * 4 + 2, none⟩ = some (.int .i64 t.ct) ∧ W.cell? ⟨b, k * 4 + 3, none⟩ = some (.int .i64 t.pr)) := Lib.hid (fun k hk => by
    obtain ⟨b, hA, hb, _, hW⟩ := hcell k _ (List.getElem?_eq_getElem hk)
    refine ⟨L[k], b, List.getElem?_eq_getElem hk, hA, fun W hB => ⟨(hB.cell (p := ⟨r, 1, none⟩) hr).trans q1, ?_⟩⟩
    exact (hW W (hB.block b hb)).1)
  have HQ : Hid (∀ W : World, Below w.heap.size w W → W.cell? ⟨r, 1, none⟩ = some (.slice A L.length c)) := Lib.hid (fun W hB => (hB.cell (p := ⟨r, 1, none⟩) hr).trans q1)
  have HT : Hid (L.take L.length = L) := Lib.hid (List.take_length ..)
  have HRL : Hid (∀ k, (row (L.take k) p).length ≤ 10000) := Lib.hid (fun k => by have := row_len (L.take k) p; have := List.length_take_le k L; have := List.length_take_le' k L; omega)
  clear hcell h q1
  unfold maxLen at hcm
  generalize hll : L.length = ln at *
  clear hll
  go_enter Try.func27, Try.ntmps27
  go_wp2_with fail
  go_loopw [5, 6] (fun o i wr => ∃ k : Nat, k ≤ ln ∧ i = .int .i64 k ∧ wr.ownsRow w.heap.size 58 4 o (row (L.take k) p).length (flat4 (row (L.take k) p)) ∧ Below w.heap.size w wr) (fun _ i _ => ln - (intOf i).toNat)
  case atStart => exact ⟨0, Nat.zero_le _, rfl, World.ownsRow_nil _ _ _ _, Below.refl _ _⟩
  case round =>
    obtain ⟨k, hk, rfl, hown, hb⟩ := hrel
    have hsz := hb.size
    by_cases hkl : k < ln
    · obtain ⟨t, b, ht, rfl, hW⟩ := HC.out k hkl
      obtain ⟨q1, c0, c1, c2, c3⟩ := hW wr hb
      have hst := take_step ht
      have hrl := HRL.out k
      obtain ⟨A', c', rfl, hc'⟩ := row_form hown
      by_cases he : t.pr = p
      · have hst2 : row (L.take (k + 1)) p = row (L.take k) p ++ [t] := by rw [hst, row_append, row_one, if_pos he]
        have HST := Lib.hid hst2
        have e1 : (t.pr == p) = true := by simpa using he
        have H0 := Lib.hid hown; have HB := Lib.hid hb
        clear hst hst2 he hW ht hown hb
        obtain ⟨ti, tf, tc, tp⟩ := t
        simp only at c0 c1 c2 c3 e1
        generalize row (L.take k) p = R at *
        have HR := Lib.hid (rfl : R.length = R.length)
        generalize hrn : R.length = rn at *
        have HRN := Lib.hid hrn
        clear hrn HR
        go_wp2_with (at_builtin; refine wpList_append_own _ rfl _ _ 48 rfl w.heap.size 58 i58 _ 4 32 Try.underlying48 I58.out Z58.out S58.out Y58.out rfl (by decide) _ _ _ rfl (H0.out.alloc _) ⟨wr.heap.size, 0, none⟩ 1 1 [.int .i64 ti, .int .i64 tf, .int .i64 tc, .int .i64 tp] rfl rfl (World.news_of_block (cs := #[.int .i64 ti, .int .i64 tf, .int .i64 tc, .int .i64 tp]) (t := 58) (fr := (0, 0)) (by exact new_block _ _)) (by simp [Value.oneCell']) (by unfold maxLen; omega) (by omega) (by simp; omega) ?_; intro v' w5 hown' hgrow _; have hb5 := Lib.hid (below_append HB.out H0.out hgrow (Nat.le_refl _) hsz); have H5 := Lib.hid hown'; clear hgrow hown')
        go_roundw
        case rel => exact ⟨k + 1, by omega, by go_num, by rw [HST.out, flat4_append, List.length_append, HRN.out]; exact H5.out, hb5.out⟩
        case measure => simp [intOf]; omega
      · have hst2 : row (L.take (k + 1)) p = row (L.take k) p := by rw [hst, row_append, row_one, if_neg he, List.append_nil]
        have HST := Lib.hid hst2
        have e1 : (t.pr == p) = false := by simpa using he
        have H0 := Lib.hid hown; have HB := Lib.hid hb
        clear hst hst2 he hW ht hown hb
        go_wp2_with fail
        go_roundw
        case rel => exact ⟨k + 1, by omega, by go_num, by rw [HST.out]; exact H0.out, HB.out⟩
        case measure => simp [intOf]; omega
    · obtain rfl : k = ln := by omega
      rw [HT.out] at hown
      obtain ⟨A', c', rfl, hc'⟩ := row_form hown
      have q1 := HQ.out wr hb
      have H0 := Lib.hid hown
      clear hown
      generalize hrp : (row L p).length = rl at *
      have HRP := Lib.hid hrp
      clear hrp
      go_wp2_with fail
      go_ret
      refine ⟨⟨_, rfl, ?_⟩, hb⟩
      rw [HRP.out]
      exact H0.out

set_option maxHeartbeats 2000000 in
theorem rput_bad (w : World) (r : Nat) (v : Value) (N m : Nat) (L : List It) (pr x f c : Int) (h : Rf w r v N m L) (hb : ¬ PutOk m pr x f c) :
    Calls Try.prog 19 #[.pointer (some ⟨r, 0, none⟩), .int .i64 pr, .int .i64 x, .int .i64 f, .int .i64 c] w fun e w' => e = .returned (.int .i64 2) ∧ w = w' := by
  obtain ⟨q0, q1, -⟩ := h.cells
  clear h
  unfold PutOk at hb
  by_cases h1 : pr < 0
  case' neg =>
    have h1 : 0 ≤ pr := by omega
    by_cases h2 : (m : Int) ≤ pr
    case' neg =>
      have h2 : pr < m := by omega
      by_cases h3 : x < 0
      case' neg =>
        have h3 : 0 ≤ x := by omega
        by_cases h4 : f < 0
        case' neg =>
          have h4 : 0 ≤ f := by omega
          have h5 : c < 0 := by omega
  all_goals
    clear hb
    go_enter Try.func19, Try.ntmps19
    go_wp2_with fail
    go_ret
    exact ⟨rfl, rfl⟩

set_option maxHeartbeats 4000000 in
theorem rput_new' (w : World) (r : Nat) (v : Value) (N m : Nat) (L : List It) (pr : Nat) (x f c : Int) (k : Int) (hk : (if 2147483647 < c then 2147483647 else c) = k) (hk2 : k = capc c) (h : Rf w r v N m L) (hN : N ≤ 10000) (hp : pr < m) (hx0 : 0 ≤ x) (hx1 : x ≤ 9223372036854775807) (hf0 : 0 ≤ f) (hf1 : f ≤ 9223372036854775807) (hc0 : 0 ≤ c) (hl : look L x = none) :
    Calls Try.prog 19 #[.pointer (some ⟨r, 0, none⟩), .int .i64 pr, .int .i64 x, .int .i64 f, .int .i64 c] w fun e w' => e = .returned (.int .i64 0) ∧ ∃ v', Rf w' r v' (N + 1) m (L ++ [⟨x, f, k, pr⟩]) ∧ Stp (RFoot r v) w (RFoot r v') w' := by
  obtain ⟨i58, hi0, hz0, hz1, hz2⟩ := info_parts info58
  have I58 := Lib.hid hi0; have Z58 := Lib.hid hz0; have S58 := Lib.hid hz1; have Y58 := Lib.hid hz2
  clear hi0 hz0 hz1 hz2
  have HF := Lib.hid (find_no w r v N m L x h hN hl)
  obtain ⟨q0, q1, zq1⟩ := h.cells
  obtain ⟨A, cc, rfl, hlc, hcm, -⟩ := row4_cells h.o
  have HNE : Hid ((Value.slice A L.length cc).ownBlock ≠ some r) := Lib.hid (fun e => h.x r e rfl)
  have hln := h.ln
  have HH := Lib.hid h; have HLK := Lib.hid hl; have HX := Lib.hid hx1; have HF1 := Lib.hid hf1; have HK2 := Lib.hid hk2
  clear h hl hx1 hf1 hk2
  unfold maxLen at hcm
  generalize hM : L.length = ln at *
  have HM := Lib.hid hM
  clear hM
  have HO := HH.out.o
  rw [HM.out] at HO
  have HO := Lib.hid HO
  go_enter Try.func19, Try.ntmps19
  go_wp2_with fail
  refine HF.out.mono ?_
  rintro e w1 ⟨rfl, rfl⟩
  go_wp2_with (at_builtin; refine wpList_append_lies _ rfl _ _ 48 rfl 0 58 i58 _ 4 32 Try.underlying48 I58.out Z58.out S58.out Y58.out rfl (by omega) _ ln (flat4 L) rfl (HO.out.alloc _) ⟨w.heap.size, 0, none⟩ 1 1 [.int .i64 x, .int .i64 f, .int .i64 k, .int .i64 pr] rfl rfl (World.news_of_block (cs := #[.int .i64 x, .int .i64 f, .int .i64 k, .int .i64 pr]) (t := 58) (fr := (0, 0)) (by exact new_block _ _)) (by simp [Value.oneCell']) (by omega) (by unfold maxLen; omega) (by omega) (Nat.zero_le _) (w.heap.size + 1) (by simp) ?_; intro gg cap w3 own2 gr2 at2 lt2; have GR := Lib.hid gr2; have OW := Lib.hid own2; have AT := Lib.hid at2; clear own2 gr2 at2; have y2 := far_row GR.out (by exact q1) (by exact HNE.out); obtain ⟨y2, z2⟩ := y2; have z2 := z2.trans zq1)
  go_ret
  have G1 := grown_trans (grown_alloc w (.cells #[.int .i64 x, .int .i64 f, .int .i64 k, .int .i64 pr] 58) _) GR.out
  have hkb := capc_b hc0
  rw [← HK2.out] at hkb
  obtain ⟨q', st⟩ := HH.out.turn (L' := L ++ [⟨x, f, k, pr⟩]) (N' := N + 1) (by rw [flat4_append, List.length_append, HM.out]; exact OW.out) G1 (fun b' e => by
    have e2 : gg = b' := by simpa [Value.ownBlock] using e
    subst e2
    rcases AT.out with h | h
    · exact .inl h
    · exact .inr (by omega)) (HH.out.ok.snoc _ (look_none.1 HLK.out) ⟨hx0, HX.out, hf0, HF1.out, hkb.1, hkb.2, by simp, by simp; omega⟩) (by have := HH.out.ln; simp; omega)
  exact ⟨rfl, _, q', st⟩

theorem flat4_at (l : List It) (k : Nat) : (flat4 l)[k]? = (l[k / 4]?).bind fun t => (enc4 t)[k % 4]? := by
  cases h : l[k / 4]? with
  | none =>
    have := List.getElem?_eq_none_iff.1 h
    rw [List.getElem?_eq_none (by rw [flat4_len]; omega)]; rfl
  | some t =>
    have := flat4_get l (k / 4) (k % 4) (by omega) t h
    rw [show k / 4 * 4 + k % 4 = k by omega] at this
    rw [this]; rfl
/-- An item in a row is written. -/
theorem row4_set {w w' : World} {v : Value} {l : List It} (h : w.ownsRow 0 58 4 v l.length (flat4 l)) {i : Nat} {t t' : It} (ht : l[i]? = some t) {b : Nat} (hb : v.ownBlock = some b)
    (hW : ∀ cur fr, w.heap[b]? = some (.cells cur 58 fr) → w'.heap[b]? = some (.cells ((((cur.setIfInBounds (i * 4) (.int .i64 t'.id)).setIfInBounds (i * 4 + 1) (.int .i64 t'.fl)).setIfInBounds (i * 4 + 2) (.int .i64 t'.ct)).setIfInBounds (i * 4 + 3) (.int .i64 t'.pr)) 58 fr)) :
    w'.ownsRow 0 58 4 v (l.set i t').length (flat4 (l.set i t')) := by
  have hil : i < l.length := (List.getElem?_eq_some_iff.1 ht).1
  rcases h.2 with ⟨rfl, _⟩ | ⟨g, cap, cur, rfl, hg, hh, hc, hm, hs, hk⟩
  · cases hb
  · obtain rfl : g = b := by simpa [Value.ownBlock] using hb
    refine ⟨flat4_len _, .inr ⟨g, cap, _, by rw [List.length_set], hg, hW _ _ hh, by rw [List.length_set]; exact hc, hm, by simpa using hs, ?_⟩⟩
    rw [List.length_set]
    refine List.ext_getElem? fun k => ?_
    rcases Nat.lt_or_ge k (l.length * 4) with hk2 | hk2
    · rw [List.getElem?_take_of_lt hk2, Array.getElem?_toList]
      have h0 : cur[k]? = (flat4 l)[k]? := by rw [← hk, List.getElem?_take_of_lt hk2, Array.getElem?_toList]
      by_cases e2 : k / 4 = i
      · have hkk : k = i * 4 ∨ k = i * 4 + 1 ∨ k = i * 4 + 2 ∨ k = i * 4 + 3 := by omega
        rw [flat4_at, e2, List.getElem?_set_self hil]
        rcases hkk with rfl | rfl | rfl | rfl
        · rw [Array.getElem?_setIfInBounds_ne (by omega), Array.getElem?_setIfInBounds_ne (by omega), Array.getElem?_setIfInBounds_ne (by omega), Array.getElem?_setIfInBounds_self_of_lt (by omega)]
          simp [enc4]
        · rw [Array.getElem?_setIfInBounds_ne (by omega), Array.getElem?_setIfInBounds_ne (by omega), Array.getElem?_setIfInBounds_self_of_lt (by simp; omega)]
          simp [enc4, show (i * 4 + 1) % 4 = 1 by omega]
        · rw [Array.getElem?_setIfInBounds_ne (by omega), Array.getElem?_setIfInBounds_self_of_lt (by simp; omega)]
          simp [enc4, show (i * 4 + 2) % 4 = 2 by omega]
        · rw [Array.getElem?_setIfInBounds_self_of_lt (by simp; omega)]
          simp [enc4, show (i * 4 + 3) % 4 = 3 by omega]
      · rw [Array.getElem?_setIfInBounds_ne (by omega), Array.getElem?_setIfInBounds_ne (by omega), Array.getElem?_setIfInBounds_ne (by omega), Array.getElem?_setIfInBounds_ne (by omega), h0, flat4_at, flat4_at, List.getElem?_set_ne (fun e3 => e2 e3.symm)]
    · rw [List.getElem?_eq_none (by simp; omega), List.getElem?_eq_none (by rw [flat4_len, List.length_set]; omega)]
theorem Rf.write {w w5 : World} {r : Nat} {v : Value} {N N' m : Nat} {L L' : List It} (h : Rf w r v N m L) (own : w5.ownsRow 0 58 4 v L'.length (flat4 L')) (hg : w.grownBy w5 v.ownBlock) (ok : Ok m L') (ln : L'.length ≤ N') :
    Rf w5 r v N' m L' ∧ Stp (RFoot r v) w (RFoot r v) w5 :=
  ⟨⟨(hg.block r (lt_of_block h.q) (fun e => h.x r e.symm rfl)).trans h.q, own, h.x, ok, ln, h.m8⟩, ⟨hg.os, hg.tape, hg.output, hg.size, fun b hb hn => hg.block b hb (fun e => hn (.inr e.symm))⟩, fun b hb => .inl hb⟩

set_option maxHeartbeats 4000000 in
theorem rput_old' (w : World) (r : Nat) (v : Value) (N m : Nat) (L : List It) (pr : Nat) (f c : Int) (t : It) (k k2 : Int) (hk : (if 2147483647 < c then 2147483647 else c) = k) (hk2 : (if 2147483647 < t.ct + k then 2147483647 else t.ct + k) = k2) (hk3 : k2 = capc (t.ct + c)) (h : Rf w r v N m L) (hN : N ≤ 10000) (hp : pr < m) (hf0 : 0 ≤ f) (hf1 : f ≤ 9223372036854775807) (hc0 : 0 ≤ c) (hkb : 0 ≤ k ∧ k ≤ 2147483647) (ht : t ∈ L) :
    Calls Try.prog 19 #[.pointer (some ⟨r, 0, none⟩), .int .i64 pr, .int .i64 t.id, .int .i64 f, .int .i64 c] w fun e w' => e = .returned (.int .i64 0) ∧ ∃ v', Rf w' r v' N m (upd L t.id f c) ∧ Stp (RFoot r v) w (RFoot r v') w' := by
  have hl := look_mem h.ok ht
  have hb := h.ok.b t ht
  have HF := Lib.hid (find_yes w r v N m L t.id t h hN hl)
  obtain ⟨hp1, hp2⟩ := plc_of_look hl
  have HE : Hid (upd L t.id f c = L.set (plc L t.id) (updT t.id f c t)) := Lib.hid (upd_set h.ok.nd ht f c)
  have HT : Hid (updT t.id f c t = ⟨t.id, bits .or .i64 t.fl f, k2, t.pr⟩) := Lib.hid (by unfold updT; rw [if_pos rfl, hk3])
  obtain ⟨q0, q1, zq1⟩ := h.cells
  obtain ⟨A, cc, rfl, hlc, hcm, -, -, hcell⟩ := row4_cells h.o
  obtain ⟨b, rfl, hbl, hob, hW⟩ := hcell _ t hp2
  have hln := h.ln
  have hbr : b ≠ r := h.x b hob
  have hrl := lt_of_block h.q
  have HB := Lib.hid hb; have HH := Lib.hid h; have HF1 := Lib.hid hf1; have HK3 := Lib.hid hk3; have HW := Lib.hid hW; have HP2 := Lib.hid hp2
  obtain ⟨b1, b2, b3, b4, b5, b6, b7, b8⟩ := hb
  have hcw := hW w rfl
  obtain ⟨⟨c0, c1, c2, c3⟩, z0, z1, z2, z3⟩ := hcw
  clear h hl hf1 hk3 hcell hW hp2 ht hob b2 b4 b7 b8
  unfold maxLen at hcm
  obtain ⟨ti, tf, tc, tp⟩ := t
  simp only at HF HE HT HB c0 c1 c2 c3 hk2 HP2 HW b1 b3 b5 b6 hp1 ⊢
  generalize hi : plc L ti = i at *
  generalize hM : L.length = ln at *
  have HM := Lib.hid hM
  clear hM hi
  go_enter Try.func19, Try.ntmps19
  go_wp2_with fail
  refine HF.out.mono ?_
  rintro e w1 ⟨rfl, rfl⟩
  go_wp2_with fail
  go_region
  go_wp2_with fail
  all_goals
    go_ret
    refine ⟨rfl, ?_⟩
    have h0 := grown_trans (grown_trans (grown_trans (grown_set w b (i * 4) (.int .i64 ti)) (grown_set _ b (i * 4 + 1) (.int .i64 (bits .or .i64 tf f)))) (grown_set _ b (i * 4 + 2) (.int .i64 k2))) (grown_set _ b (i * 4 + 3) (.int .i64 tp))
    have h1 := grown_trans h0 (grown_alloc _ (.cells #[.int .i64 ti, .int .i64 (bits .or .i64 tf f), .int .i64 k2, .int .i64 tp] 58) _)
    have hg1 : w.grownBy (((((w.setCell ⟨b, i * 4, none⟩ (.int .i64 ti)).setCell ⟨b, i * 4 + 1, none⟩ (.int .i64 (bits .or .i64 tf f))).setCell ⟨b, i * 4 + 2, none⟩ (.int .i64 k2)).setCell ⟨b, i * 4 + 3, none⟩ (.int .i64 tp)).alloc (.cells #[.int .i64 ti, .int .i64 (bits .or .i64 tf f), .int .i64 k2, .int .i64 tp] 58)).drew (some b) := ⟨h1.os, h1.tape, h1.output, h1.size, h1.block⟩
    generalize hW2 : (((((w.setCell ⟨b, i * 4, none⟩ (.int .i64 ti)).setCell ⟨b, i * 4 + 1, none⟩ (.int .i64 (bits .or .i64 tf f))).setCell ⟨b, i * 4 + 2, none⟩ (.int .i64 k2)).setCell ⟨b, i * 4 + 3, none⟩ (.int .i64 tp)).alloc (.cells #[.int .i64 ti, .int .i64 (bits .or .i64 tf f), .int .i64 k2, .int .i64 tp] 58)).drew = w2 at hg1 ⊢
    have hrow' := row4_set (w' := w2) (t' := updT ti f c ⟨ti, tf, tc, tp⟩) HH.out.o HP2.out (b := b) rfl (fun cur fr hc => by
      rw [HT.out, ← hW2]
      exact (Below.heap_alloc _ _ _ (by simpa [World.setCell] using hbl)).trans (set_block (set_block (set_block (set_block hc _ _) _ _) _ _) _ _))
    rw [← HE.out] at hrow'
    obtain ⟨q', st⟩ := HH.out.write (N' := N) hrow' hg1 (HH.out.ok.upd ti f c hf0 HF1.out hc0) (by unfold upd; rw [List.length_map]; exact HH.out.ln)
    exact ⟨_, q', st⟩
/-- Put, whatever is asked. -/
theorem rput_any (w : World) (r : Nat) (v : Value) (N m : Nat) (L : List It) (pr x f c : Int) (h : Rf w r v N m L) (hN : N ≤ 10000) (hx : x ≤ 9223372036854775807) (hf : f ≤ 9223372036854775807) :
    Calls Try.prog 19 #[.pointer (some ⟨r, 0, none⟩), .int .i64 pr, .int .i64 x, .int .i64 f, .int .i64 c] w fun e w' => e = .returned (.int .i64 (putE m pr x f c)) ∧ ∃ v', Rf w' r v' (N + 1) m (putL m L pr x f c) ∧ Stp (RFoot r v) w (RFoot r v') w' := by
  by_cases hp : PutOk m pr x f c
  · unfold putE putL
    rw [if_pos hp, if_pos hp]
    obtain ⟨⟨p0, p1⟩, x0, f0, c0⟩ := hp
    obtain ⟨p, rfl⟩ := Int.eq_ofNat_of_zero_le p0
    cases hl : look L x with
    | none =>
      rw [Option.isSome_none, if_neg (by simp)]
      exact rput_new' w r v N m L p x f c _ rfl rfl h hN (by omega) x0 hx f0 hf c0 hl
    | some t =>
      rw [Option.isSome_some, if_pos rfl]
      obtain ⟨ht, rfl⟩ := look_some hl
      have hb := (h.ok.b t ht).2.2.2.2.1
      refine (rput_old' w r v N m L p f c t _ _ rfl rfl (by unfold capc; (repeat' split) <;> omega) h hN (by omega) f0 hf c0 (by split <;> omega) ht).mono ?_
      rintro e w' ⟨rfl, v', q, st⟩
      exact ⟨rfl, v', q.mono (by omega), st⟩
  · unfold putE putL
    rw [if_neg hp, if_neg hp]
    refine (rput_bad w r v N m L pr x f c h hp).mono ?_
    rintro e w' ⟨rfl, rfl⟩
    exact ⟨rfl, v, h.mono (by omega), Stp.refl _ _⟩
end Go.Proofs.Ytncfggcbdliepaa
