/- DeleteFunc, without. -/
import Derived.Test.YtllolfbjmpaamaaB
namespace Go.Proofs.Ytllolfbjmpaamaa
open Go.RowKit
set_option linter.unusedSimpArgs false
set_option linter.unusedVariables false
set_option maxRecDepth 100000

theorem take_step {l : List It} {k : Nat} {t : It} (h : l[k]? = some t) : l.take (k + 1) = l.take k ++ [t] := by
  obtain ⟨hk, e⟩ := List.getElem?_eq_some_iff.1 h
  rw [List.take_succ_eq_append_getElem hk, e]
theorem cutL_append (l m : List It) (x : Int) : cutL (l ++ m) x = cutL l x ++ cutL m x := List.filter_append ..
theorem cutL_one (t : It) (x : Int) : cutL [t] x = if t.id = x then [] else [t] := by by_cases h : t.id = x <;> simp [cutL, h]
theorem cutL_len (l : List It) (x : Int) : (cutL l x).length ≤ l.length := List.length_filter_le _ _
theorem setCells_grown (b : Nat) : ∀ (vs : List Value) (o : Nat) (w : World), w.grownBy (w.setCells b o vs) (some b)
  | [], _, w => grown_refl w _
  | v :: r, o, w => grown_trans (grown_set w b o v) (setCells_grown b r (o + 1) _)
theorem setCells_block {b : Nat} {T : TypeId} {fr : Nat × Nat} : ∀ (vs : List Value) (o : Nat) (w : World) (cur : Array Value), w.heap[b]? = some (.cells cur T fr) →
    ∃ cur', (w.setCells b o vs).heap[b]? = some (.cells cur' T fr) ∧ cur'.size = cur.size ∧ ∀ q, q < o → cur'[q]? = cur[q]?
  | [], _, w, cur, h => ⟨cur, h, rfl, fun _ _ => rfl⟩
  | v :: r, o, w, cur, h => by
    obtain ⟨c, h1, h2, h3⟩ := setCells_block r (o + 1) _ _ (set_block h o v)
    refine ⟨c, h1, by rw [h2]; simp, fun q hq => ?_⟩
    rw [h3 q (by omega), Array.getElem?_setIfInBounds_ne (by omega)]

/-- In the loop: the block's cells at place j. -/
structure Dl (W : World) (b cap : Nat) (l : List It) (x : Int) (j : Nat) (cur : Array Value) : Prop where
  h : W.heap[b]? = some (.cells cur 3 (0, 0))
  s : cur.size = cap
  lo : ∀ q, q < (cutL (l.take j) x).length → cur[q]? = (flat (cutL (l.take j) x))[q]?
  hi : ∀ q, j ≤ q → q < l.length → cur[q]? = (flat l)[q]?

set_option maxHeartbeats 4000000 in
theorem delfunc_yes (b cap : Nat) (l : List It) (x : Int) (xb : Nat) (w : World) (h : w.ownsRow 0 3 1 (.slice (some ⟨b, 0, none⟩) l.length cap) l.length (flat l)) (hl : l.length ≤ 100000) (hx : w.cell? ⟨xb, 0, none⟩ = some (.int .i64 x)) (hne : b ≠ xb) (hp : plc l x < l.length) :
    Calls Try.prog 44 #[.slice (some ⟨b, 0, none⟩) l.length cap, .func (.func 45) #[] #[.pointer (some ⟨xb, 0, none⟩)]] w fun e w' => (∃ v', e = .returned v' ∧ v'.ownBlock = some b ∧ w'.ownsRow 0 3 1 v' (cutL l x).length (flat (cutL l x))) ∧ w.grownBy w' (some b) := by
  have HI := Lib.hid (index_yes _ l x xb w h hl hx hp)
  have hxb := (cell_lt hx).1
  simp at hxb
  rcases h.2 with ⟨hv, hn⟩ | ⟨b', cap', cur, hv, hb, hh, hc, hm, hs, ht⟩
  · omega
  injection hv with e1 _ e2
  injection e1 with e1
  injection e1 with e1
  subst e1 e2
  unfold maxLen at hm
  have hget : ∀ q, q < l.length → cur[q]? = (flat l)[q]? := fun q hq => by
    rw [← ht, List.getElem?_take_of_lt (by omega), Array.getElem?_toList]
  -- the number's place
  obtain ⟨t0, ht0, htx⟩ := plc_lt' hp (Nat.le_refl _)
  have htx := htx.2 rfl
  have hbefore : cutL (l.take (plc l x)) x = l.take (plc l x) := cut_none (fun s hs e => by
    obtain ⟨q, hq, rfl⟩ := List.getElem_of_mem hs
    have hq2 : q < plc l x := by rw [List.length_take] at hq; omega
    obtain ⟨t, ht1, hiff⟩ := plc_lt' (k := q) hp (by omega)
    rw [List.getElem_take] at e
    have : l[q] = t := by
      have := List.getElem?_eq_getElem (l := l) (i := q) (by omega)
      rw [ht1] at this; injection this with this; exact this.symm
    rw [this] at e
    have := hiff.1 e
    omega)
  have hstart : cutL (l.take (plc l x + 1)) x = l.take (plc l x) := by
    rw [take_step ht0, cutL_append, hbefore, cutL_one, if_pos htx, List.append_nil]
  have D0 : Hid (Dl w b cap l x (plc l x + 1) cur) := Lib.hid ⟨hh, by omega, fun q hq => by
    rw [hstart] at hq ⊢
    rw [List.length_take] at hq
    rw [hget q (by omega)]
    simp only [flat, ids, List.map_take, List.getElem?_take_of_lt (show q < plc l x by omega)], fun q _ hq => hget q hq⟩
  have hi0 : (cutL (l.take (plc l x + 1)) x).length = plc l x := by rw [hstart, List.length_take]; omega
  have HS := Lib.hid (fun k => cutL_len (l.take k) x)
  have HLT : Hid (∀ j, plc l x < j → (cutL (l.take j) x).length < j) := Lib.hid (fun j hj => by
    have e : l.take j = l.take (plc l x + 1) ++ (l.take j).drop (plc l x + 1) := by
      have := (List.take_append_drop (plc l x + 1) (l.take j)).symm
      rw [List.take_take, Nat.min_eq_left (by omega)] at this
      exact this
    have hA := congrArg (fun z => (cutL z x).length) e
    simp only [cutL_append, List.length_append, hi0] at hA
    have h2 := cutL_len ((l.take j).drop (plc l x + 1)) x
    rw [List.length_drop, List.length_take] at h2
    omega)
  have hwr1 : IntKind.i64.wrap ((plc l x : Int) + 1) = (plc l x : Int) + 1 := IntWalk.i64_in _ (by omega)
  have hne1 : ((plc l x : Int) == -1) = false := by rw [beq_eq_false_iff_ne]; omega
  clear hget hbefore hstart ht0 htx h ht hh hb hs
  have HTK : Hid (l.take l.length = l) := Lib.hid (List.take_length ..)
  generalize plc l x = n at *
  generalize hll : l.length = ln at *
  have HLL := Lib.hid hll
  clear hll
  go_enter Try.func44, Try.ntmps44
  go_wp2_with fail
  refine HI.out.mono ?_
  rintro e w1 ⟨rfl, rfl⟩
  go_wp2_with fail
  go_loopw [5, 6] (fun i j wr => ∃ (k : Nat) (cur : Array Value), n < k ∧ k ≤ ln ∧ j = .int .i64 k ∧ i = .int .i64 (cutL (l.take k) x).length ∧ Hid (Dl wr b cap l x k cur) ∧ Hid (w.grownBy wr (some b))) (fun _ j _ => ln - (intOf j).toNat)
  case atStart => exact ⟨n + 1, cur, by omega, by omega, by first | rfl | go_num, by rw [hi0], D0, Lib.hid (grown_refl _ _)⟩
  case round =>
    clear D0 HI
    obtain ⟨k, cur', hk0, hk, rfl, rfl, HD, HG⟩ := hrel
    have hlt := HLT.out k hk0
    have hcx := (far_cell HG.out hx (fun e => hne e.symm)).1
    by_cases hkl : k < ln
    · have hk2 : k < l.length := by rw [HLL.out]; exact hkl
      have hg := flat_get l k _ (List.getElem?_eq_getElem hk2)
      have hck : wr.cell? ⟨b, k, none⟩ = some (.int .i64 l[k].id) := by
        rw [(cell_of HD.out.h k).1, HD.out.hi k (Nat.le_refl _) (by omega), hg]
      have hst := take_step (List.getElem?_eq_getElem hk2)
      have hkl2 : (k : Int) < (ln : Int) := by omega
      by_cases he : l[k].id = x
      · have hst2 : cutL (l.take (k + 1)) x = cutL (l.take k) x := by rw [hst, cutL_append, cutL_one, if_pos he, List.append_nil]
        have e1 : (l[k].id == x) = true := by simpa using he
        have DN : Hid (Dl wr b cap l x (k + 1) cur') := Lib.hid ⟨HD.out.h, HD.out.s, by rw [hst2]; exact HD.out.lo, fun q h1 h2 => HD.out.hi q (by omega) h2⟩
        have HST := Lib.hid (congrArg List.length hst2)
        clear hg hst hst2 he
        generalize l[k].id = y at *
        generalize (cutL (l.take k) x).length = i at *
        go_wp2_with (refine (pred_any _ _ _ _ hcx).mono ?_; rintro e w2 ⟨rfl, rfl⟩)
        go_roundw
        case rel => exact ⟨k + 1, cur', by omega, by omega, by go_num, by rw [HST.out], DN, HG⟩
        case measure => simp [intOf]; omega
      · have hst2 : cutL (l.take (k + 1)) x = cutL (l.take k) x ++ [l[k]] := by rw [hst, cutL_append, cutL_one, if_neg he]
        have e1 : (l[k].id == x) = false := by simpa using he
        have hic : (cutL (l.take k) x).length < cap := by omega
        have hci := cell_of HD.out.h (cutL (l.take k) x).length
        obtain ⟨old, hcs⟩ : ∃ old, wr.cell? ⟨b, (cutL (l.take k) x).length, none⟩ = some old := ⟨_, hci.1.trans (Array.getElem?_eq_getElem (by rw [HD.out.s]; exact hic))⟩
        have hfs := hci.2
        have DN : Hid (Dl (wr.setCell ⟨b, (cutL (l.take k) x).length, none⟩ (.int .i64 l[k].id)) b cap l x (k + 1) (cur'.setIfInBounds (cutL (l.take k) x).length (.int .i64 l[k].id))) := Lib.hid (by
          refine ⟨set_block HD.out.h _ _, by simpa using HD.out.s, fun q hq => ?_, fun q h1 h2 => ?_⟩
          · rw [hst2] at hq ⊢
            rw [List.length_append, List.length_singleton] at hq
            rw [flat_append]
            by_cases e : q = (cutL (l.take k) x).length
            · subst e
              rw [Array.getElem?_setIfInBounds_self_of_lt (by rw [HD.out.s]; exact hic), List.getElem?_append_right (by rw [flat_len]; exact Nat.le_refl _), flat_len, Nat.sub_self]
              rfl
            · rw [Array.getElem?_setIfInBounds_ne (fun e2 => e e2.symm), List.getElem?_append_left (by rw [flat_len]; omega)]
              exact HD.out.lo q (by omega)
          · rw [Array.getElem?_setIfInBounds_ne (by omega)]
            exact HD.out.hi q (by omega) h2)
        have HGN := Lib.hid (grown_trans HG.out (grown_set wr b (cutL (l.take k) x).length (.int .i64 l[k].id)))
        have HST : Hid ((cutL (l.take (k + 1)) x).length = (cutL (l.take k) x).length + 1) := Lib.hid (by rw [hst2]; simp)
        have hic2 : ((cutL (l.take k) x).length : Int) < (ln : Int) := by omega
        clear hg hst hst2 he hci hic
        generalize l[k].id = y at *
        generalize (cutL (l.take k) x).length = i at *
        go_wp2_with (refine (pred_any _ _ _ _ hcx).mono ?_; rintro e w2 ⟨rfl, rfl⟩)
        go_roundw
        case rel => exact ⟨k + 1, _, by omega, by omega, by go_num, by rw [HST.out]; go_num, DN, HGN⟩
        case measure => simp [intOf]; omega
    · obtain rfl : k = ln := by omega
      rw [HTK.out] at hlt ⊢
      have hlo := HD.out.lo
      rw [HTK.out] at hlo
      have HLO0 := Lib.hid hlo
      clear hlo
      have hcl : ∀ ty, (Builtin.clear_ #[28] ty #[.slice (some ⟨b, (cutL l x).length, none⟩) (k - (cutL l x).length) (cap - (cutL l x).length)]).run Try.prog wr = .ok (.tuple #[]) (wr.setCells b (cutL l x).length (List.replicate (k - (cutL l x).length) (.int .i64 0))) := fun ty => Lib.run_clear_slice wr 28 3 ty (.int .i64 0) Try.underlying28 (fun w => by kernel_rfl) rfl rfl b (cutL l x).length (k - (cutL l x).length) (cap - (cutL l x).length) (by omega) (fun j hj => by
        rw [(cell_of HD.out.h _).1, Array.getElem?_eq_getElem (by have := HD.out.s; omega)]; rfl) (fun j hj => (cell_of HD.out.h _).2)
      obtain ⟨cur2, g1, g2, g3⟩ := setCells_block (List.replicate (k - (cutL l x).length) (.int .i64 0)) (cutL l x).length wr cur' HD.out.h
      have HG1 := Lib.hid g1; have HG2 := Lib.hid g2; have HG3 := Lib.hid g3
      have HGN := Lib.hid (grown_trans HG.out (setCells_grown b (List.replicate (k - (cutL l x).length) (.int .i64 0)) (cutL l x).length wr))
      have hci : ¬ cap = (cutL l x).length := by omega
      have hic2 : ((cutL l x).length : Int) ≤ (k : Int) := by omega
      have HLO := Lib.hid (fun q hq => (HG3.out q hq).trans (HLO0.out q hq))
      clear g1 g2 g3
      generalize wr.setCells b (cutL l x).length (List.replicate (k - (cutL l x).length) (.int .i64 0)) = w9 at *
      generalize hil : (cutL l x).length = i at *
      have HIL := Lib.hid hil
      clear hil
      go_wp2_with fail
      go_ret
      refine ⟨⟨_, rfl, rfl, ?_⟩, HGN.out⟩
      rw [HIL.out]
      refine ⟨by rw [flat_len, HIL.out]; omega, .inr ⟨b, cap, cur2, rfl, Nat.zero_le _, HG1.out, by omega, by unfold maxLen; omega, by rw [HG2.out, HD.out.s]; omega, ?_⟩⟩
      rw [Nat.mul_one]
      refine List.ext_getElem? fun q => ?_
      rcases Nat.lt_or_ge q i with hq | hq
      · rw [List.getElem?_take_of_lt hq, Array.getElem?_toList]
        exact HLO.out q hq
      · rw [List.getElem?_eq_none (by rw [List.length_take]; omega), List.getElem?_eq_none (by rw [flat_len, HIL.out]; exact hq)]

set_option maxHeartbeats 2000000 in
theorem delfunc_no (v : Value) (l : List It) (x : Int) (xb : Nat) (w : World) (h : w.ownsRow 0 3 1 v l.length (flat l)) (hl : l.length ≤ 100000) (hx : w.cell? ⟨xb, 0, none⟩ = some (.int .i64 x)) (hp : look l x = none) :
    Calls Try.prog 44 #[v, .func (.func 45) #[] #[.pointer (some ⟨xb, 0, none⟩)]] w fun e w' => e = .returned v ∧ w = w' := by
  have HI := Lib.hid (index_no _ l x xb w h hl hx hp)
  obtain ⟨A, c, rfl, -⟩ := row_form h
  clear h hp
  generalize l.length = ln at *
  go_enter Try.func44, Try.ntmps44
  go_wp2_with fail
  refine HI.out.mono ?_
  rintro e w1 ⟨rfl, rfl⟩
  go_wp2_with fail
  go_ret
  exact ⟨rfl, rfl⟩
theorem row_rebase {w : World} {base : Nat} {e : TypeId} {s : Nat} {v : Value} {n : Nat} {xs : List Value} (h : w.ownsRow 0 e s v n xs) (hb : ∀ b, v.ownBlock = some b → base ≤ b) : w.ownsRow base e s v n xs := by
  refine ⟨h.1, ?_⟩
  rcases h.2 with h0 | ⟨g, cap, cur, rfl, _, h2⟩
  · exact .inl h0
  · exact .inr ⟨g, cap, cur, rfl, hb g rfl, h2⟩
set_option maxHeartbeats 2000000 in
theorem without_any (v : Value) (l : List It) (x : Int) (w : World) (h : w.ownsRow 0 3 1 v l.length (flat l)) (hl : l.length ≤ 100000) :
    Calls Try.prog 36 #[v, .int .i64 x] w fun e w' => (∃ v', e = .returned v' ∧ w'.ownsRow w.heap.size 3 1 v' (cutL l x).length (flat (cutL l x))) ∧ Below w.heap.size w w' := by
  have HC := Lib.hid (Clone_any v l (w.alloc (.cells #[.int .i64 x] 3)) (h.alloc _) hl)
  have K1 : Hid ((w.alloc (.cells #[.int .i64 x] 3)).heap[w.heap.size]? = some (.cells #[.int .i64 x] 3 (0, 0))) := Lib.hid (new_block _ _)
  have B1 : Hid (Below w.heap.size w (w.alloc (.cells #[.int .i64 x] 3))) := Lib.hid ((Below.refl _ w).alloc (Nat.le_refl _) _)
  obtain ⟨A, c, rfl, -⟩ := row_form h
  have HS : Hid ((w.alloc (.cells #[.int .i64 x] 3)).heap.size = w.heap.size + 1) := Lib.hid (by simp)
  clear h
  go_enter Try.func36, Try.ntmps36
  go_wp2_with fail
  generalize w.alloc (.cells #[.int .i64 x] 3) = w1 at *
  generalize hxb : w.heap.size = xb at *
  refine HC.out.mono ?_
  rintro e w2 ⟨⟨v2, rfl, r2⟩, b2⟩
  have hxl := lt_of_block K1.out
  have K2 := (b2.block _ hxl).trans K1.out
  have cx := (cell_of K2 0).1
  simp at cx
  have R2 := Lib.hid r2; have B2 := Lib.hid (B1.out.trans (b2.mono (Nat.le_of_lt hxl)))
  cases hlk : look l x with
  | none =>
    have HD := Lib.hid (delfunc_no v2 l x xb w2 (row_base r2) hl cx hlk)
    have HE := Lib.hid (cut_none (look_none.1 hlk))
    obtain ⟨A2, c2, rfl, -⟩ := row_form r2
    clear b2 r2 hlk
    go_wp2_with fail
    refine HD.out.mono ?_
    rintro e w3 ⟨rfl, rfl⟩
    go_wp2_with fail
    go_ret
    subst hxb
    refine ⟨⟨_, rfl, ?_⟩, B2.out⟩
    rw [HE.out]
    exact row_rebase (row_base R2.out) (fun b e => by have := (R2.out.lt b e).1; omega)
  | some t =>
    have hp := plc_lt_look hlk
    rcases r2.2 with ⟨_, hn⟩ | ⟨b, cap, cur, rfl, hb, _⟩
    · omega
    have hne : b ≠ xb := by have := hb; omega
    have HD := Lib.hid (delfunc_yes b cap l x xb w2 (row_base r2) hl cx hne hp)
    have HBG := Lib.hid hb
    clear b2 r2 hlk hb
    go_wp2_with fail
    refine HD.out.mono ?_
    rintro e w3 ⟨⟨v3, rfl, o3, r3⟩, g3⟩
    have R3 := Lib.hid r3; have O3 := Lib.hid o3
    have B3 := Lib.hid (B2.out.grown g3 (by have := B2.out.size; omega) (fun k e => by cases e; have := HBG.out; omega))
    obtain ⟨A3, c3, rfl, -⟩ := row_form r3
    clear r3 g3
    go_wp2_with fail
    go_ret
    subst hxb
    exact ⟨⟨_, rfl, row_rebase R3.out (fun b' e => by have e2 := O3.out.symm.trans e; injection e2 with e2; subst e2; have := HBG.out; omega)⟩, B3.out⟩
end Go.Proofs.Ytllolfbjmpaamaa
