/- EvmapHits. -/
import Derived.Test.YtllolfbjmpaamaaHm
import Derived.Test.YtllolfbjmpaamaaCu
namespace Go.Proofs.Ytllolfbjmpaamaa
open Go.RowKit
set_option linter.unusedSimpArgs false
set_option linter.unusedVariables false
set_option maxRecDepth 100000

theorem rowH_below {w : World} {base : Nat} {v : Value} {l : List It} (h : w.ownsRow base 31 2 v l.length (flatH l)) : ∃ (A : Option Addr) (c : Nat), v = .slice A l.length c ∧ l.length ≤ c ∧ ∀ (k : Nat), k < l.length → ∃ (t : It) (b : Nat), l[k]? = some t ∧ A = some ⟨b, 0, none⟩ ∧ ∀ W : World, Below w.heap.size w W → W.cell? ⟨b, k * 2, none⟩ = some (.int .i64 t.id) ∧ W.cell? ⟨b, k * 2 + 1, none⟩ = some (.int .i64 t.wn) := by
  obtain ⟨A, c, e, h1, h2, h3⟩ := rowH_cells h
  refine ⟨A, c, e, h1, fun k hk => ?_⟩
  obtain ⟨b, hA, hb, ho, hW⟩ := h3 k _ (List.getElem?_eq_getElem hk)
  exact ⟨_, b, List.getElem?_eq_getElem hk, hA, fun W hB => by rw [Nat.mul_comm]; exact hW W (hB.block b hb)⟩

theorem hits_out (a : Option Addr) (n cap : Nat) (fd fl : Int) (w : World) (hn : n ≤ maxLen) (h : 200 < n) :
    Calls Try.prog 3 #[.slice a n cap, .int .i64 fd, .int .i64 fl] w fun e w' => e = .returned (.bool true) ∧ Below w.heap.size w w' := by
  unfold maxLen at hn
  have h2 : (200 : Int) < (n : Int) := by omega
  go_enter Try.func3, Try.ntmps3
  go_wp2_with fail
  refine (alive_any _).mono ?_
  rintro e w1 ⟨rfl, b1⟩
  go_wp2_with fail
  go_ret
  exact ⟨rfl, b1⟩

set_option maxHeartbeats 16000000 in
theorem hitsE_in (a : Option Addr) (cap : Nat) (os : List OpV) (fd fl : Int) (w : World) (hl : os.length ≤ 200) (ho : OpsAt w a os) (hk : ∀ o ∈ os, o.ok) :
    Calls Try.prog 3 #[.slice a os.length cap, .int .i64 fd, .int .i64 fl] w fun e w' => e = .returned (.bool true) ∧ Below w.heap.size w w' := by
  have HG := Lib.hid (fun (W : World) (hb : Below w.heap.size w W) => grown_any a cap os W hl (ho.below hb) hk)
  clear ho hk
  generalize grownL os = L at *
  generalize hlen : os.length = len at *
  clear hlen
  go_enter Try.func3, Try.ntmps3
  go_wp2_with fail
  refine (alive_any _).mono ?_
  rintro e w1 ⟨rfl, b1⟩
  have B1 := Lib.hid b1
  clear b1
  go_wp2_with fail
  refine (HG.out _ B1.out).mono ?_
  rintro e w2 ⟨g, S, rfl, r2⟩
  have R2 := Lib.hid r2
  clear r2 HG
  go_wp2_with fail
  refine (Hits_any w2 g S 200 L fd 2 R2.out.q (by omega)).mono ?_
  rintro e w3 ⟨⟨v3, rfl, r3⟩, b3⟩
  have R3 := Lib.hid (R2.out.below b3)
  have V3 := Lib.hid r3
  clear r3 b3 R2
  go_wp2_with fail
  refine (Hits_any w3 g S 200 L fd 4 R3.out.q (by omega)).mono ?_
  rintro e w4 ⟨⟨v4, rfl, r4⟩, b4⟩
  have R4 := Lib.hid (R3.out.below b4)
  have V3' := Lib.hid (row_keep V3.out b4)
  have V4 := Lib.hid r4
  clear r4 b4 R3 V3
  go_wp2_with fail
  refine (Hits_any w4 g S 200 L fd fl R4.out.q (by omega)).mono ?_
  rintro e w5 ⟨⟨v5, rfl, r5⟩, b5⟩
  have R5 := Lib.hid (R4.out.below b5)
  have V3 := Lib.hid (row_keep V3'.out b5)
  have V4' := Lib.hid (row_keep V4.out b5)
  have V5 := Lib.hid r5
  clear r5 b5 R4 V3' V4
  go_wp2_with fail
  refine (Of_any w5 g S 200 L fd R5.out.q (by omega)).mono ?_
  rintro e w7 ⟨⟨v6, rfl, r6⟩, b6⟩
  have R7 := Lib.hid (R5.out.below b6)
  obtain ⟨A3, c3, rfl, h3, hc3⟩ := rowH_below (row_keep V3.out b6)
  obtain ⟨A4, c4, rfl, h4, hc4⟩ := rowH_below (row_keep V4'.out b6)
  obtain ⟨A5, c5, rfl, h5, hc5⟩ := rowH_below (row_keep V5.out b6)
  obtain ⟨A6, c6, rfl, h6, hc6⟩ := row_below r6
  have HWA := Lib.hid (show wants L fd = wntL (ofL L fd) from rfl)
  have hln := R7.out.q.ln
  have hol := ofL_len L fd
  have HND : Hid (((ofL L fd).map It.id).Nodup) := Lib.hid (by
    unfold ofL
    split
    · exact (R7.out.q.ok.row fd).nd
    · exact List.nodup_nil)
  have HA3 := Lib.hid hc3; have HA4 := Lib.hid hc4; have HA5 := Lib.hid hc5; have HA6 := Lib.hid hc6
  clear hc3 hc4 hc5 hc6 r6 b6 V3 V4' V5 R5
  generalize ofL L fd = R at *
  have HTR : Hid (R.take R.length = R) := Lib.hid (List.take_length ..)
  have HT3 : Hid ((hitsL R 2).take (hitsL R 2).length = hitsL R 2) := Lib.hid (List.take_length ..)
  have HT4 : Hid ((hitsL R 4).take (hitsL R 4).length = hitsL R 4) := Lib.hid (List.take_length ..)
  have HL3 := Lib.hid (hits_len R 2); have HL4 := Lib.hid (hits_len R 4); have HL5 := Lib.hid (hits_len R fl)
  have HAT : Hid (∀ k t, R[k]? = some t → nF fl t.wn ≠ 0 → (hitsL R fl)[(hitsL (R.take k) fl).length]? = some (hitOf fl t) ∧ (hitsL (R.take k) fl).length < (hitsL R fl).length) := Lib.hid (fun k t h hne => hit_at h hne)
  generalize hl3 : (hitsL R 2).length = l3 at *
  generalize hl4 : (hitsL R 4).length = l4 at *
  generalize hl5 : (hitsL R fl).length = l5 at *
  generalize hlr : R.length = ln at *
  have b3 := HL3.out; have b4 := HL4.out; have b5 := HL5.out
  have HLR := Lib.hid hlr; have H5 := Lib.hid hl5
  clear hl3 hl4 hl5 hlr HL3 HL4 HL5
  go_wp2_with fail
  go_loopw [12, 13, 45] (fun s k i wr => ∃ q : Nat, q ≤ ln ∧ i = .int .i64 q ∧ s = .int .i64 (nF fl (wntL (R.take q))) ∧ k = .int .i64 ((hitsL (R.take q) fl).length : Nat) ∧ Below w7.heap.size w7 wr) (fun _ _ i _ => ln - (intOf i).toNat)
  case atStart => exact ⟨0, Nat.zero_le _, rfl, by rw [List.take_zero, wntL_nil, nF_zero], rfl, Below.refl _ _⟩
  case round =>
    obtain ⟨q, hq, rfl, rfl, rfl, hB⟩ := hrel
    by_cases hql : q < ln
    · obtain ⟨t, b6, ht, rfl, hca⟩ := HA6.out q hql
      have ca := hca wr hB
      have hql2 : (q : Int) < (ln : Int) := by omega
      have HAB := Lib.hid (acc_both fl t R HND.out (List.mem_of_getElem? ht))
      have hst := take_step ht
      have HSUM := Lib.hid (sum_step fl (R.take q) t)
      rw [← hst] at HSUM
      have HHS := Lib.hid (hits_snoc (R.take q) t fl)
      rw [← hst] at HHS
      have HAQ := Lib.hid (HAT.out q t ht)
      have hkl : (hitsL (R.take q) fl).length ≤ 200 := Nat.le_trans (hits_len _ _) (by rw [List.length_take]; omega)
      clear hst ht
      generalize hkk : (hitsL (R.take q) fl).length = kk at *
      have HKK := Lib.hid hkk
      clear hkk
      generalize nF fl (wntL (R.take q)) = sq at *
      go_wp2_with fail
      go_loopw [16, 50] (fun o i wq => ∃ j : Nat, j ≤ l3 ∧ i = .int .i64 j ∧ o = .int .i64 (acc t.id 0 ((hitsL R 2).take j)) ∧ Below w7.heap.size w7 wq) (fun _ i _ => l3 - (intOf i).toNat)
      case atStart => exact ⟨0, Nat.zero_le _, rfl, rfl, hB⟩
      case round =>
        clear hB ca
        obtain ⟨wq, hwq⟩ : ∃ wq : World, wq = wr := ⟨_, rfl⟩
        obtain ⟨j, hj, rfl, rfl, hB⟩ := hrel
        have ca := hca wr hB
        by_cases hjl : j < l3
        · obtain ⟨h, bh, hh, rfl, hcell⟩ := HA3.out j hjl
          obtain ⟨c0, c1⟩ := hcell wr hB
          have hst := take_step hh
          have hjl2 : (j : Int) < (l3 : Int) := by omega
          have HS := Lib.hid (acc_snoc t.id 0 ((hitsL R 2).take j) h)
          rw [← hst] at HS
          by_cases he : h.id = t.id
          · have e1 : (h.id == t.id) = true := by simpa using he
            have HE := Lib.hid (show ∀ s, accF t.id s h = bits .or .i64 s h.wn from fun s => by unfold accF; rw [if_pos he])
            clear hst he hh hcell
            generalize acc t.id 0 ((hitsL R 2).take j) = n at *
            generalize h.id = hi at *
            generalize h.wn = hw at *
            generalize t.id = ti at *
            go_wp2_with fail
            go_quiet (fail)
            go_wp2_with fail
            go_roundw
            case rel => exact ⟨j + 1, by omega, by go_num, by rw [HS.out, HE.out], below_drewN hB _⟩
            case measure => simp [intOf]; omega
          · have e1 : (h.id == t.id) = false := by simpa using he
            have HE := Lib.hid (show ∀ s, accF t.id s h = s from fun s => by unfold accF; rw [if_neg he])
            clear hst he hh hcell
            generalize acc t.id 0 ((hitsL R 2).take j) = n at *
            generalize h.id = hi at *
            generalize h.wn = hw at *
            generalize t.id = ti at *
            go_wp2_with fail
            go_quiet (fail)
            go_wp2_with fail
            go_roundw
            case rel => exact ⟨j + 1, by omega, by go_num, by rw [HS.out, HE.out], below_drewN hB _⟩
            case measure => simp [intOf]; omega
        · obtain rfl : j = l3 := by omega
          rw [HT3.out]
          generalize hs1 : acc t.id 0 (hitsL R 2) = s1 at *
          clear hwq wq hjl hj
          go_wp2_with fail
          go_loopw [16, 73] (fun o i wq => ∃ j : Nat, j ≤ l4 ∧ i = .int .i64 j ∧ o = .int .i64 (acc t.id s1 ((hitsL R 4).take j)) ∧ Below w7.heap.size w7 wq) (fun _ i _ => l4 - (intOf i).toNat)
          case atStart => exact ⟨0, Nat.zero_le _, rfl, rfl, hB⟩
          case round =>
            clear hB ca
            obtain ⟨wq, hwq⟩ : ∃ wq : World, wq = wr := ⟨_, rfl⟩
            obtain ⟨j, hj, rfl, rfl, hB⟩ := hrel
            have ca := hca wr hB
            by_cases hjl : j < l4
            · obtain ⟨h, bh, hh, rfl, hcell⟩ := HA4.out j hjl
              obtain ⟨c0, c1⟩ := hcell wr hB
              have hst := take_step hh
              have hjl2 : (j : Int) < (l4 : Int) := by omega
              have HS := Lib.hid (acc_snoc t.id s1 ((hitsL R 4).take j) h)
              rw [← hst] at HS
              by_cases he : h.id = t.id
              · have e1 : (h.id == t.id) = true := by simpa using he
                have HE := Lib.hid (show ∀ s, accF t.id s h = bits .or .i64 s h.wn from fun s => by unfold accF; rw [if_pos he])
                clear hst he hh hcell
                generalize acc t.id s1 ((hitsL R 4).take j) = n at *
                generalize h.id = hi at *
                generalize h.wn = hw at *
                generalize t.id = ti at *
                go_wp2_with fail
                go_quiet (fail)
                go_wp2_with fail
                go_roundw
                case rel => exact ⟨j + 1, by omega, by go_num, by rw [HS.out, HE.out], below_drewN hB _⟩
                case measure => simp [intOf]; omega
              · have e1 : (h.id == t.id) = false := by simpa using he
                have HE := Lib.hid (show ∀ s, accF t.id s h = s from fun s => by unfold accF; rw [if_neg he])
                clear hst he hh hcell
                generalize acc t.id s1 ((hitsL R 4).take j) = n at *
                generalize h.id = hi at *
                generalize h.wn = hw at *
                generalize t.id = ti at *
                go_wp2_with fail
                go_quiet (fail)
                go_wp2_with fail
                go_roundw
                case rel => exact ⟨j + 1, by omega, by go_num, by rw [HS.out, HE.out], below_drewN hB _⟩
                case measure => simp [intOf]; omega
            · obtain rfl : j = l4 := by omega
              rw [HT4.out]
              generalize hv : acc t.id s1 (hitsL R 4) = v at *
              have hab := HAB.out
              clear HAB hv hwq wq hjl hj
              by_cases hz : nF fl t.wn = 0
              · rw [hz] at hab HSUM
                rw [if_pos hz, List.append_nil] at HHS
                clear hz HAQ
                go_wp2_with fail
                go_roundw
                case rel => exact ⟨q + 1, by omega, by go_num, by rw [HSUM.out], by rw [HHS.out, HKK.out], hB⟩
                case measure => simp [intOf]; omega
              · obtain ⟨hg, hlt⟩ := HAQ.out hz
                rw [if_neg hz] at HHS
                obtain ⟨h', b5', hh', rfl, hcell⟩ := HA5.out kk hlt
                rw [hg] at hh'
                obtain rfl : hitOf fl t = h' := Option.some.inj hh'
                obtain ⟨d0, d1⟩ := hcell wr hB
                rw [show (hitOf fl t).id = t.id from rfl] at d0
                rw [show (hitOf fl t).wn = nF fl t.wn from rfl] at d1
                have hlt2 : (kk : Int) < (l5 : Int) := by omega
                clear hg hh' hcell HAQ
                generalize hn : nF fl t.wn = n at *
                have hnz : (n == 0) = false := by simpa using hz
                clear hz hn
                generalize t.id = ti at *
                go_wp2_with fail
                go_quiet (fail)
                go_wp2_with fail
                go_roundw
                case rel => exact ⟨q + 1, by omega, by go_num, by rw [HSUM.out], by rw [HHS.out, List.length_append, HKK.out]; go_num, below_drewN hB _⟩
                case measure => simp [intOf]; omega
    · obtain rfl : q = ln := by omega
      rw [HTR.out, H5.out]
      have HN : bits .and .i64 (bits .and .i64 (wants L fd) fl) 6 = nF fl (wntL R) := by rw [HWA.out]; rfl
      have HW := Lib.hid (Wants_any wr g S 200 L fd (R7.out.below hB).q (by omega))
      generalize wants L fd = ws at *
      generalize nF fl (wntL R) = sq at *
      go_wp2_with fail
      refine HW.out.mono ?_
      rintro e w8 ⟨rfl, rfl⟩
      go_wp2_with fail
      go_ret
      exact ⟨rfl, B1.out.trans ((R7.out.b.trans (hB.mono R7.out.b.size)).mono B1.out.size)⟩

theorem hits_top {H : Type} {enc : TypeId × Value → H} {base : Nat} {held : Bool} (v : Value) (d : DataW H) (p : List MemPlace) (fd fl : Int) (w : World) {r : Reach} {b0 : Nat} (hv : Value.okWide Try.prog w r b0 22 v) (h : DataW.Trod enc Try.prog w base (fun _ => true) held 22 v d p) (w1 : (Lit.int .i64 fd).wf = true) (w2 : (Lit.int .i64 fl).wf = true) :
    Calls Try.prog 3 #[v, .int .i64 fd, .int .i64 fl] w fun e w' => e = .returned (.bool true) ∧ Below w.heap.size w w' := by
  obtain ⟨a, cap, os, rfl, hm, ho, hk⟩ := open_ops hv h
  by_cases hin : os.length ≤ 200
  · exact hitsE_in a cap os fd fl w hin ho hk
  · exact hits_out a os.length cap fd fl w hm (by omega)
end Go.Proofs.Ytllolfbjmpaamaa
