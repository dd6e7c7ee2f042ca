/- EvmapCounts. -/
import Derived.Maps.OwnOps
import Derived.Maps.OwnSet
import Derived.Test.YtllolfbjmpaamaaCm
namespace Go.Proofs.Ytllolfbjmpaamaa
open Go.RowKit
set_option linter.unusedSimpArgs false
set_option linter.unusedVariables false
set_option maxRecDepth 100000

theorem zero3 (w : World) : (zeroValue 3).run Try.prog w = .ok (.int .i64 0) w := by kernel_rfl
theorem Run.beside {w W W' : World} {g : Nat} {S : Nat → Prop} {N : Nat} {L : List It} {r : Nat} (h : Run w W g S N L) (hg : W.grownBy W' (some r)) (h1 : ¬ S r) (h2 : w.heap.size ≤ r) : Run w W' g S N L :=
  ⟨h.q.keep (fun b hb => hg.block b (h.q.lt hb) (fun e => h1 (by injection e with e; rw [← e]; exact hb))), h.b.grown hg h.b.size (fun k e => by cases e; exact h2), h.s⟩
theorem counts_out (a : Option Addr) (n cap : Nat) (w : World) (hn : n ≤ maxLen) (h : 200 < n) :
    Calls Try.prog 7 #[.slice a n cap] w fun e w' => e = .returned (.bool true) ∧ Below w.heap.size w w' := by
  unfold maxLen at hn
  have h2 : (200 : Int) < (n : Int) := by omega
  go_enter Try.func7, Try.ntmps7
  go_wp2_with fail
  refine (alive_any _).mono ?_
  rintro e w1 ⟨rfl, b1⟩
  go_wp2_with fail
  go_ret
  exact ⟨rfl, b1⟩

set_option maxHeartbeats 16000000 in
theorem counts_in (a : Option Addr) (cap : Nat) (os : List OpV) (w : World) (hl : os.length ≤ 200) (ho : OpsAt w a os) (hk : ∀ o ∈ os, o.ok) :
    Calls Try.prog 7 #[.slice a os.length cap] w fun e w' => e = .returned (.bool true) ∧ Below w.heap.size w w' := by
  have HG := Lib.hid (fun (W : World) (hb : Below w.heap.size w W) => grown_any a cap os W hl (ho.below hb) hk)
  clear ho hk
  generalize grownL os = L at *
  generalize hlen : os.length = len at *
  clear hlen
  have hmm := @run_makeMap Try.prog
  go_enter Try.func7, Try.ntmps7
  go_wp2_with fail
  refine (alive_any _).mono ?_
  rintro e w1 ⟨rfl, b1⟩
  have B1 := Lib.hid b1
  clear b1
  go_wp2_with fail
  refine (HG.out _ B1.out).mono ?_
  rintro e w2 ⟨g, S, rfl, r2⟩
  have R2 := Lib.hid r2
  clear r2 HG
  have HOK := Lib.hid R2.out.q.ok
  have hln := R2.out.q.ln
  have T3 : Hid (Cs w1 (w2.alloc (.map #[] 0)) g S L w2.heap.size []) := Lib.hid ⟨R2.out.below ((Below.refl _ _).alloc (Nat.le_refl _) _), ⟨_, World.ownsMap_made w2 Try.prog 3 (plainElem Try.prog 3), (World.ownsMap_made w2 Try.prog 3 (plainElem (H := Unit) Try.prog 3)).isMap, fun x zd _ => by simp [DataW.atKey]⟩, fun h => by have := R2.out.q.lt h; omega, R2.out.b.size⟩
  clear R2
  go_wp2_with fail
  generalize w2.alloc (.map #[] 0) = w3 at *
  generalize w2.heap.size = mb at *
  clear hmm
  go_loopw [6, 7] (fun o i wr => ∃ k : Nat, k ≤ 96 ∧ i = .int .i64 k ∧ o = .int .i64 ((gat L k).length : Nat) ∧ Hid (Cs w1 wr g S L mb (ids (gat L k)))) (fun _ i _ => 96 - (intOf i).toNat)
  case atStart => exact ⟨0, by omega, rfl, rfl, T3⟩
  case round =>
    clear T3
    obtain ⟨w7, rfl⟩ : ∃ w7 : World, w7 = wr := ⟨_, rfl⟩
    obtain ⟨k, hk, rfl, rfl, HT⟩ := hrel
    by_cases hlt : k < 96
    · have HF := Of_any w7 g S 200 L (k : Nat) HT.out.p.q (by omega)
      rw [of_row L (show k ≤ 95 by omega)] at HF
      have HF := Lib.hid HF
      have hk95 : (k : Int) ≤ 95 := by omega
      have HGL : Hid ((gat L k).length ≤ 500) := Lib.hid (by rw [gat_len]; exact Nat.le_trans (lens_le L k) (by omega))
      have hgl2 := HGL.out
      go_wp2_with fail
      refine HF.out.mono ?_
      rintro e w8 ⟨⟨v8, rfl, r8⟩, b8⟩
      have T8 := Lib.hid (HT.out.below b8)
      obtain ⟨A8, c8, rfl, h8, hcell⟩ := row_beside r8 HT.out.q.lt
      have HC8 := Lib.hid hcell
      have HNEW : Hid (∀ j t, (row L (k : Nat))[j]? = some t → t.id ∉ ids (gat L k) ++ ids ((row L (k : Nat)).take j)) := Lib.hid (fun j t h => gat_new HOK.out h)
      have HRM : Hid (∀ t ∈ row L (k : Nat), t ∈ L) := Lib.hid (fun t h => (mem_row.1 h).1)
      have HTK : Hid ((row L (k : Nat)).take (row L (k : Nat)).length = row L (k : Nat)) := Lib.hid (List.take_length ..)
      have HGS : Hid (gat L (k + 1) = gat L k ++ row L (k : Nat)) := Lib.hid rfl
      have HWP := Lib.hid (wants_pos HOK.out (show k ≤ 95 by omega))
      have hrl := row_len L (k : Nat)
      have HOF : Hid (ofL L (k : Nat) = row L (k : Nat)) := Lib.hid (of_row L (by omega))
      clear r8 b8 hcell HF HT
      generalize row L (k : Nat) = R at *
      have HLR : Hid (R.length = R.length) := Lib.hid rfl
      generalize hl1 : R.length = ln at *
      replace HLR := Lib.hid (show R.length = ln ∧ ln ≤ 200 from ⟨hl1, by omega⟩)
      clear hl1
      go_wp2_with fail
      go_loopw [6, 35] (fun o i wq => ∃ j : Nat, j ≤ ln ∧ i = .int .i64 j ∧ o = .int .i64 ((gat L k).length + j : Nat) ∧ w8.grownBy wq (some mb) ∧ Hid (Cs w1 wq g S L mb (ids (gat L k) ++ ids (R.take j)))) (fun _ i _ => ln - (intOf i).toNat)
      case atStart => exact ⟨0, Nat.zero_le _, rfl, rfl, ⟨rfl, rfl, rfl, Nat.le_refl _, fun _ _ _ => rfl⟩, Lib.hid (by simpa [ids] using T8.out)⟩
      case round =>
        clear T8
        obtain ⟨wq, hwq⟩ : ∃ wq : World, wq = wr := ⟨_, rfl⟩
        obtain ⟨j, hj, rfl, rfl, hg, HT⟩ := hrel
        by_cases hjl : j < ln
        · obtain ⟨t, b, ht, rfl, hW⟩ := HC8.out j hjl
          have c0 := hW _ hg
          have hm := HRM.out t (List.mem_of_getElem? ht)
          have hwf : (Lit.int .i64 t.id).wf = true := wf64 (HOK.out.b t hm).lo (HOK.out.b t hm).hi
          have hnew := HNEW.out j t ht
          have hst := take_step ht
          have hM : ids (gat L k) ++ ids (R.take (j + 1)) = (ids (gat L k) ++ ids (R.take j)) ++ [t.id] := by rw [hst]; simp [ids]
          have HM := Lib.hid hM
          obtain ⟨D, hown, hisM, hat⟩ := HT.out.q
          have HAT := Lib.hid hat; have HIS := Lib.hid hisM; have HNW := Lib.hid hnew; have HG := Lib.hid hg
          have hjl2 : (j : Int) < (ln : Int) := by omega
          have hgl := HGL.out
          have hml : (ids (gat L k) ++ ids (R.take j)).length ≤ 1000 := by
            have := HLR.out
            simp only [ids, List.length_append, List.length_map, List.length_take]; omega
          have HKEY : Hid (keyOf Try.prog 3 (.int .i64 t.id) = some (.int .i64 t.id)) := Lib.hid (Go.Maps.keyOf_int_mk Try.underlying3 hwf)
          have HWF := Lib.hid hwf
          clear hM hst hnew hm ht hW hat hisM hwf hg
          generalize ids (gat L k) ++ ids (R.take j) = M at *
          generalize t.id = ti at *
          have HN1 := Lib.hid hml
          go_wp2_with (first
            | (at_lookup; refine wpList_lookup_own_int _ rfl _ _ 71 rfl 3 3 .i64 key3 Try.underlying71 Try.underlying3 (zero3 _) mb M.length D rfl hown _ _ rfl HKEY.out ?_; intro cc hcc hwcc; obtain rfl := met_zero HWF.out HAT.out HNW.out hcc; clear hcc hwcc)
            | (at_mapUpdate; refine wpList_mapUpdate_own _ rfl _ _ _ 71 rfl 3 3 key3 Try.underlying71 (plainElem Try.prog 3) mb M.length D rfl hown (by unfold maxLen; have := HN1.out; omega) _ _ _ rfl rfl HKEY.out (.lit (.int .i64 1)) [] (plainElem_int Try.underlying3 (by decide)) ?_; intro w5 m5 g5; have M5 : Hid (Met w5 mb (M ++ [ti])) := Lib.hid ⟨_, by simpa using m5, m5.isMap, met_put HIS.out HWF.out HAT.out⟩; have G5 := Lib.hid g5; clear m5 g5 hown))
          go_roundw
          case rel => exact ⟨j + 1, by omega, by go_num, by go_num, HG.out.andThen G5.out (fun j hj => by cases hj; exact Or.inr rfl), Lib.hid (by rw [HM.out]; exact HT.out.put G5.out M5.out)⟩
          case measure => simp [intOf]; omega
        · obtain rfl : j = ln := by omega
          clear hwq wq
          obtain ⟨w9, rfl⟩ : ∃ w9 : World, w9 = wr := ⟨_, rfl⟩
          have HO := Of_any w9 g S 200 L (k : Nat) HT.out.p.q (by omega)
          rw [HOF.out] at HO
          have HO := Lib.hid HO
          have T10 : Hid (∀ W, Below w9.heap.size w9 W → Cs w1 W g S L mb (ids (gat L (k + 1)))) := Lib.hid (fun W hW => by
            have := HT.out.below hW
            rw [HTK.out] at this
            rw [HGS.out]
            simpa [ids] using this)
          have HGC : Hid ((gat L (k + 1)).length = (gat L k).length + j) := Lib.hid (by rw [HGS.out, List.length_append, HLR.out.1])
          have HW := Lib.hid (fun (W : World) (hW : Below w9.heap.size w9 W) => Wants_any W g S 200 L (k : Nat) (HT.out.below hW).p.q (by omega))
          have hwp := HWP.out
          clear HC8 HNEW HRM HTK HWP HT hjl hj h8 hg HGS
          rw [HLR.out.1] at HO
          generalize (gat L k).length + j = mny at *
          generalize wants L (k : Nat) = ws at *
          by_cases h0 : ws = 0
          case' neg =>
            have hz2 : ((0 : Int) < (j : Int)) := by
              have : ¬ j = 0 := fun e => h0 (hwp.2 e)
              omega
            have hz5 : 0 < j := by omega
            have hz1 : (ws != 0) = true := by simpa using h0
          case' pos =>
            have hz3 : j = 0 := hwp.1 h0
            subst h0
          all_goals
            clear hwp
            go_wp2_with fail
            refine HO.out.mono ?_
            rintro e w10 ⟨⟨v10, rfl, r10⟩, b10⟩
            obtain ⟨A10, c10, rfl, -⟩ := row_form r10
            have B10 := Lib.hid b10
            clear r10 b10 HO
            (try (have hz4 : ¬ ((0 : Int) < (j : Int)) := by omega))
            go_wp2_with fail
            refine (HW.out _ B10.out).mono ?_
            rintro e w11 ⟨rfl, rfl⟩
            go_wp2_with fail
            go_roundw
            case rel => exact ⟨k + 1, by omega, by go_num, by rw [HGC.out], Lib.hid (T10.out _ B10.out)⟩
            case measure => simp [intOf]; omega
    · obtain rfl : k = 96 := by omega
      have T7 : Hid (Cs w1 w7 g S L mb (ids (gat L (96 + 1)))) := Lib.hid (by
        have : gat L (96 + 1) = gat L 96 := by
          show gat L 96 ++ row L (96 : Nat) = gat L 96
          rw [row_96 HOK.out, List.append_nil]
        rw [this]; exact HT.out)
      have h97 : (gat L 96).length = (gat L (96 + 1)).length := by
        have : gat L (96 + 1) = gat L 96 := by
          show gat L 96 ++ row L (96 : Nat) = gat L 96
          rw [row_96 HOK.out, List.append_nil]
        rw [this]
      rw [h97, show ((96 : Nat) : Int) = 96 from rfl]
      clear h97 HT
      go_wp2_with fail
      go_loopw [6, 10] (fun o i wr => ∃ k : Nat, 1 ≤ k ∧ k ≤ 32 ∧ i = .int .i64 k ∧ o = .int .i64 ((gat L (96 + k)).length : Nat) ∧ Hid (Cs w1 wr g S L mb (ids (gat L (96 + k))))) (fun _ i _ => 32 - (intOf i).toNat)
      case atStart => exact ⟨1, by omega, by omega, rfl, rfl, T7⟩
      case round =>
        clear T7
        obtain ⟨w7, rfl⟩ : ∃ w7 : World, w7 = wr := ⟨_, rfl⟩
        obtain ⟨k, hk1, hk, rfl, rfl, HT⟩ := hrel
        by_cases hlt : k < 32
        · have HF := OfSignal_any w7 g S 200 L (k : Nat) HT.out.p.q (by omega)
          rw [sig_row L hk1 (show k ≤ 31 by omega)] at HF
          have HF := Lib.hid HF
          have hk95 : (k : Int) ≤ 31 := by omega
          have HGL : Hid ((gat L (96 + k)).length ≤ 500) := Lib.hid (by rw [gat_len]; exact Nat.le_trans (lens_le L (96 + k)) (by omega))
          have hgl2 := HGL.out
          go_wp2_with fail
          refine HF.out.mono ?_
          rintro e w8 ⟨⟨v8, rfl, r8⟩, b8⟩
          have T8 := Lib.hid (HT.out.below b8)
          obtain ⟨A8, c8, rfl, h8, hcell⟩ := row_beside r8 HT.out.q.lt
          have HC8 := Lib.hid hcell
          have HNEW : Hid (∀ j t, (row L ((96 + k : Nat) : Int))[j]? = some t → t.id ∉ ids (gat L (96 + k)) ++ ids ((row L ((96 + k : Nat) : Int)).take j)) := Lib.hid (fun j t h => gat_new HOK.out h)
          have HRM : Hid (∀ t ∈ row L ((96 + k : Nat) : Int), t ∈ L) := Lib.hid (fun t h => (mem_row.1 h).1)
          have HTK : Hid ((row L ((96 + k : Nat) : Int)).take (row L ((96 + k : Nat) : Int)).length = row L ((96 + k : Nat) : Int)) := Lib.hid (List.take_length ..)
          have HGS : Hid (gat L (96 + (k + 1)) = gat L (96 + k) ++ row L ((96 + k : Nat) : Int)) := Lib.hid rfl
          have hrl := row_len L ((96 + k : Nat) : Int)
          clear r8 b8 hcell HF HT
          generalize row L ((96 + k : Nat) : Int) = R at *
          have HLR : Hid (R.length = R.length) := Lib.hid rfl
          generalize hl1 : R.length = ln at *
          replace HLR := Lib.hid (show R.length = ln ∧ ln ≤ 200 from ⟨hl1, by omega⟩)
          clear hl1
          go_wp2_with fail
          go_loopw [6, 64] (fun o i wq => ∃ j : Nat, j ≤ ln ∧ i = .int .i64 j ∧ o = .int .i64 ((gat L (96 + k)).length + j : Nat) ∧ w8.grownBy wq (some mb) ∧ Hid (Cs w1 wq g S L mb (ids (gat L (96 + k)) ++ ids (R.take j)))) (fun _ i _ => ln - (intOf i).toNat)
          case atStart => exact ⟨0, Nat.zero_le _, rfl, rfl, ⟨rfl, rfl, rfl, Nat.le_refl _, fun _ _ _ => rfl⟩, Lib.hid (by simpa [ids] using T8.out)⟩
          case round =>
            clear T8
            obtain ⟨wq, hwq⟩ : ∃ wq : World, wq = wr := ⟨_, rfl⟩
            obtain ⟨j, hj, rfl, rfl, hg, HT⟩ := hrel
            by_cases hjl : j < ln
            · obtain ⟨t, b, ht, rfl, hW⟩ := HC8.out j hjl
              have c0 := hW _ hg
              have hm := HRM.out t (List.mem_of_getElem? ht)
              have hwf : (Lit.int .i64 t.id).wf = true := wf64 (HOK.out.b t hm).lo (HOK.out.b t hm).hi
              have hnew := HNEW.out j t ht
              have hst := take_step ht
              have hM : ids (gat L (96 + k)) ++ ids (R.take (j + 1)) = (ids (gat L (96 + k)) ++ ids (R.take j)) ++ [t.id] := by rw [hst]; simp [ids]
              have HM := Lib.hid hM
              obtain ⟨D, hown, hisM, hat⟩ := HT.out.q
              have HAT := Lib.hid hat; have HIS := Lib.hid hisM; have HNW := Lib.hid hnew; have HG := Lib.hid hg
              have hjl2 : (j : Int) < (ln : Int) := by omega
              have hgl := HGL.out
              have hml : (ids (gat L (96 + k)) ++ ids (R.take j)).length ≤ 1000 := by
                have := HLR.out
                simp only [ids, List.length_append, List.length_map, List.length_take]; omega
              have HKEY : Hid (keyOf Try.prog 3 (.int .i64 t.id) = some (.int .i64 t.id)) := Lib.hid (Go.Maps.keyOf_int_mk Try.underlying3 hwf)
              have HWF := Lib.hid hwf
              clear hM hst hnew hm ht hW hat hisM hwf hg
              generalize ids (gat L (96 + k)) ++ ids (R.take j) = M at *
              generalize t.id = ti at *
              have HN1 := Lib.hid hml
              go_wp2_with (first
                | (at_lookup; refine wpList_lookup_own_int _ rfl _ _ 71 rfl 3 3 .i64 key3 Try.underlying71 Try.underlying3 (zero3 _) mb M.length D rfl hown _ _ rfl HKEY.out ?_; intro cc hcc hwcc; obtain rfl := met_zero HWF.out HAT.out HNW.out hcc; clear hcc hwcc)
                | (at_mapUpdate; refine wpList_mapUpdate_own _ rfl _ _ _ 71 rfl 3 3 key3 Try.underlying71 (plainElem Try.prog 3) mb M.length D rfl hown (by unfold maxLen; have := HN1.out; omega) _ _ _ rfl rfl HKEY.out (.lit (.int .i64 1)) [] (plainElem_int Try.underlying3 (by decide)) ?_; intro w5 m5 g5; have M5 : Hid (Met w5 mb (M ++ [ti])) := Lib.hid ⟨_, by simpa using m5, m5.isMap, met_put HIS.out HWF.out HAT.out⟩; have G5 := Lib.hid g5; clear m5 g5 hown))
              go_roundw
              case rel => exact ⟨j + 1, by omega, by go_num, by go_num, HG.out.andThen G5.out (fun j hj => by cases hj; exact Or.inr rfl), Lib.hid (by rw [HM.out]; exact HT.out.put G5.out M5.out)⟩
              case measure => simp [intOf]; omega
            · obtain rfl : j = ln := by omega
              clear hwq wq
              have T10 : Hid (Cs w1 wr g S L mb (ids (gat L (96 + (k + 1))))) := Lib.hid (by
                have := HT.out
                rw [HTK.out] at this
                rw [HGS.out]
                simpa [ids] using this)
              have HGC : Hid ((gat L (96 + (k + 1))).length = (gat L (96 + k)).length + j) := Lib.hid (by rw [HGS.out, List.length_append, HLR.out.1])
              clear HC8 HNEW HRM HTK HT hjl hj h8 hg HGS
              generalize (gat L (96 + k)).length + j = mny at *
              go_wp2_with fail
              go_roundw
              case rel => exact ⟨k + 1, by omega, by omega, by go_num, by rw [HGC.out], T10⟩
              case measure => simp [intOf]; omega
        · obtain rfl : k = 32 := by omega
          rw [show 96 + 32 = 128 from rfl] at HT ⊢
          rw [gat_all HOK.out, show ((32 : Nat) : Int) = 32 from rfl]
          obtain ⟨D, hown, -, hat⟩ := HT.out.q
          have HAT := Lib.hid hat
          have HMEM : Hid (∀ x ∈ ids (gat L 128), (look L x).isSome = true) := Lib.hid (fun x hx => by
            unfold ids at hx
            obtain ⟨t, ht, rfl⟩ := List.mem_map.1 hx
            rw [look_mem HOK.out (gat_mem ht).1]; rfl)
          have R7 := Lib.hid HT.out.p
          clear HT hat
          generalize ids (gat L 128) = M at *
          go_wp2_with (at_range; refine wpList_range_own _ rfl _ 71 rfl 3 3 key3 Try.underlying71 _ mb M.length D rfl hown ?_; intro w0 hrg0 hg0 hs0)
          go_frame
          have R0 : Hid (Run w1 w0 g S 200 L) := Lib.hid (R7.out.below ⟨hg0.os, hg0.tape, hg0.output, hg0.size, fun i hi => hg0.block i hi (by simp)⟩)
          have HRS : Hid (¬ S w7.heap.size ∧ w1.heap.size ≤ w7.heap.size) := Lib.hid ⟨fun h => by have := R7.out.q.lt h; omega, R7.out.b.size⟩
          clear R7 hg0
          generalize w7.heap.size = r at *
          go_loopw [13] (fun _ wr => ∃ (left : Lit → Bool) (cnt : Nat), wr.ranges Try.prog 3 (plainElem Try.prog 3) mb r M.length D left cnt ∧ Hid (Run w1 wr g S 200 L)) (fun _ wr => wr.rangeLeft mb r)
          case atStart => exact ⟨_, _, hrg0, R0⟩
          case round =>
            clear R0
            obtain ⟨w7, rfl⟩ : ∃ w7 : World, w7 = wr := ⟨_, rfl⟩
            obtain ⟨left, cnt, hrg, HR⟩ := hrel
            go_wp2_with (at_next; refine wpList_next_ranges_ii _ rfl _ rfl 3 3 .i64 .i64 key3 Try.underlying3 Try.underlying3 mb r M.length _ _ _ rfl hrg ?_ ?_)
            · intro _ _
              have HN := Lib.hid (Len_any w7 g S 200 L HR.out.q)
              generalize L.length = n at *
              go_wp2_with fail
              refine HN.out.mono ?_
              rintro e w8 ⟨rfl, rfl⟩
              go_wp2_with fail
              go_ret
              exact ⟨rfl, B1.out.trans (HR.out.b.mono B1.out.size)⟩
            · intro x c w8 cnt1 hwx hwc hlx hat hrg1 hlt1 hg1 hs1 hen
              obtain ⟨hxm, rfl⟩ := met_one hwx HAT.out hat
              have hlk := HMEM.out x hxm
              have R8 : Hid (Run w1 w8 g S 200 L) := Lib.hid (HR.out.beside hg1 HRS.out.1 HRS.out.2)
              have HH := Has_any w8 g S 200 L x R8.out.q hwx
              rw [hlk] at HH
              have HH := Lib.hid HH
              clear hat hlx hwc hlk hxm
              go_wp2_with fail
              refine HH.out.mono ?_
              rintro e w9 ⟨rfl, b9⟩
              have R9 := Lib.hid (R8.out.below b9)
              have hrg9 := hrg1.kept (grown_of_below b9 none) (by simp) (by simp)
              clear HH b9
              go_wp2_with fail
              go_roundw
              case rel => exact ⟨_, cnt1, hrg9, R9⟩
              case measure => rw [hrg9.left_eq, hrg.left_eq]; omega

theorem counts_top {H : Type} {enc : TypeId × Value → H} {base : Nat} {held : Bool} (v : Value) (d : DataW H) (p : List MemPlace) (w : World) {r : Reach} {b0 : Nat} (hv : Value.okWide Try.prog w r b0 22 v) (h : DataW.Trod enc Try.prog w base (fun _ => true) held 22 v d p) :
    Calls Try.prog 7 #[v] w fun e w' => e = .returned (.bool true) ∧ Below w.heap.size w w' := by
  obtain ⟨a, cap, os, rfl, hm, ho, hk⟩ := open_ops hv h
  by_cases hin : os.length ≤ 200
  · exact counts_in a cap os w hin ho hk
  · exact counts_out a os.length cap w hm (by omega)
end Go.Proofs.Ytllolfbjmpaamaa
