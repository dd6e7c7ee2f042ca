/- PrioAll. -/
import Derived.Test.YtncfggcbdliepaaMo
namespace Go.Proofs.Ytncfggcbdliepaa
open Go.RowKit
set_option linter.unusedSimpArgs false
set_option linter.unusedVariables false
set_option maxRecDepth 100000

theorem rest_len (L : List It) (p : Int) : (row L p).length + (restL L p).length = L.length := by
  unfold row restL
  induction L with
  | nil => rfl
  | cons a r ih =>
    by_cases h : a.pr = p
    · simp [h] at ih ⊢; omega
    · simp [h] at ih ⊢; omega

theorem all_out (m : Int) (a : Option Addr) (n cap : Nat) (w : World) (hn : n ≤ maxLen) (h : m < 1 ∨ 8 < m ∨ 100 < n) :
    Calls Try.prog 3 #[.int .i64 m, .slice a n cap] w fun e w' => e = .returned (.bool true) ∧ Below w.heap.size w w' := by
  unfold maxLen at hn
  by_cases h1 : m < 1
  case' neg =>
    have h1 : 1 ≤ m := by omega
    by_cases h2 : 8 < m
    case' neg =>
      have h2 : m ≤ 8 := by omega
      have h3 : (100 : Int) < (n : Int) := by omega
  all_goals
    clear h
    go_enter Try.func3, Try.ntmps3
    go_wp2_with fail
    refine (alive_any w).mono ?_
    rintro e w1 ⟨rfl, b1⟩
    go_wp2_with fail
    go_ret
    exact ⟨rfl, b1⟩

/-- Between two batches. -/
structure Bat (w W : World) (g : Nat) (S : Nat → Prop) (N m : Nat) (L M : List It) (last : Int) (j s : Nat) : Prop where
  r : Run w W g S N m M
  sub : List.Sublist M L
  lt : ∀ t ∈ M, last < t.pr
  j : (j : Int) - 1 ≤ last
  l : last < m
  s : s + M.length = L.length
/-- What a row of what is left says. -/
theorem row_all {m : Nat} {os : List OpV} {L M : List It} (h : AllI m os L) (s : List.Sublist M L) (p : Int) : ∀ (k : Nat) (t : It), (row M p)[k]? = some t →
    t ∈ M ∧ t.pr = p ∧ (∃ (i : Nat) (o : OpV), (tri m t.id os).i = i ∧ i < os.length ∧ os[i]? = some o ∧ o.pr = p ∧ (tri m t.id os).f = t.fl) ∧ ∀ (k' : Nat) (t' : It), k < k' → (row M p)[k']? = some t' → (tri m t.id os).i < (tri m t'.id os).i := by
  intro k t hk
  have hmem := List.mem_of_getElem? hk
  obtain ⟨h1, h2⟩ := mem_row.1 hmem
  obtain ⟨i, o, e1, e2, e3, e4, e5⟩ := h.at' t (s.subset h1)
  refine ⟨h1, h2, ⟨i, o, e1, e2, e3, by rw [e4, h2], e5⟩, fun k' t' hlt hk' => ?_⟩
  have hp : (row M p).Pairwise fun s t => (tri m s.id os).i < (tri m t.id os).i := h.ord.sublist ((row_sub M p).trans s)
  obtain ⟨hl1, he1⟩ := List.getElem?_eq_some_iff.1 hk
  obtain ⟨hl2, he2⟩ := List.getElem?_eq_some_iff.1 hk'
  have := List.pairwise_iff_getElem.1 hp k k' hl1 hl2 hlt
  rw [he1, he2] at this
  exact this

set_option maxHeartbeats 8000000 in
theorem all_in (m : Nat) (a : Option Addr) (cap : Nat) (os : List OpV) (w : World) (h1 : 1 ≤ m) (h8 : m ≤ 8) (hl : os.length ≤ 100) (ho : OpsAt w a os) (hk : ∀ o ∈ os, o.ok) :
    Calls Try.prog 3 #[.int .i64 m, .slice a os.length cap] w fun e w' => e = .returned (.bool true) ∧ Below w.heap.size w w' := by
  have HAL := Lib.hid (puts_all (m := m) os (fun o ho => ⟨(bd_i64 (hk o ho).i).2, (bd_i64 (hk o ho).f).2⟩))
  have HO := Lib.hid ho; have HK := Lib.hid hk
  clear ho hk
  generalize hlen : os.length = len at *
  have HL := Lib.hid hlen; clear hlen
  go_enter Try.func3, Try.ntmps3
  go_wp2_with fail
  refine (alive_any w).mono ?_
  rintro e w1 ⟨rfl, b1⟩
  have B1 := Lib.hid b1; have z1 := b1.size
  clear b1
  go_wp2_with fail
  refine (New_ok m w1 h1 h8).mono ?_
  rintro e w2 ⟨⟨g, S, rfl, q2, s2⟩, b2⟩
  have R2 : Hid (Run w w2 g S 0 m (puts m (os.take 0))) := Lib.hid ⟨q2, B1.out.trans (b2.mono z1), fun b hb => by have := s2 b hb; omega⟩
  clear q2 s2 b2
  go_wp2_with fail
  go_loopw [8] (fun i wr => ∃ (k : Nat) (S : Nat → Prop), k ≤ len ∧ i = .int .i64 k ∧ Hid (Run w wr g S k m (puts m (os.take k)))) (fun i _ => len - (intOf i).toNat)
  case atStart => exact ⟨0, S, Nat.zero_le _, rfl, R2⟩
  case round =>
    clear R2
    obtain ⟨k, S, hk, rfl, HR⟩ := hrel
    by_cases hlt : k < len
    · obtain ⟨o, b, off, hko, hok, rfl, hb, hc⟩ := HO.out.one HK.out k (by rw [HL.out]; exact hlt)
      obtain ⟨c0, c1, c2, c3, c4⟩ := hc wr HR.out.b
      have HPUT := Lib.hid (fun (W : World) (hb : Below wr.heap.size wr W) => Put_any W g S k m (puts m (os.take k)) o.pr o.id o.fl 0 (HR.out.q.below hb) (by omega) (bd_i64 hok.i).2 (bd_i64 hok.f).2)
      have HST : Hid (puts m (os.take (k + 1)) = putL m (puts m (os.take k)) o.pr o.id o.fl 0) := Lib.hid (by
        obtain ⟨hk2, hke⟩ := List.getElem?_eq_some_iff.1 hko
        rw [List.take_succ_eq_append_getElem hk2, puts_snoc, hke])
      have HC := Lib.hid hc
      clear hko hok hc c0 c4
      obtain ⟨kd, pr, oi, fl, ct⟩ := o
      simp only at c1 c2 c3 HPUT HST HC
      generalize puts m (os.take k) = L at *
      go_wp2_with fail
      go_region_held3 (fun w' => w'.cell? ⟨b, off + k * 5 + 1, none⟩ = some (.int .i64 pr) ∧ w'.cell? ⟨b, off + k * 5 + 2, none⟩ = some (.int .i64 oi) ∧ w'.cell? ⟨b, off + k * 5 + 3, none⟩ = some (.int .i64 fl)) (first | exact ⟨c1, c2, c3⟩ | exact ⟨y1, y2, y3⟩)
        (first | (go_at_call 10; refine (HPUT.out _ (by first | exact Below.refl _ _ | exact (Below.refl _ _).drew)).mono ?_; rintro e w4 ⟨rfl, S', q', st⟩; have R' := Lib.hid (HR.out.step q' (by first | exact st | exact st.undrew)); obtain ⟨-, y1, y2, y3, -⟩ := HC.out w4 R'.out.b; clear q' st))
      go_wp2_with fail
      go_roundw
      case rel => exact ⟨k + 1, S', by omega, by go_num, by rw [HST.out]; exact R'⟩
      case measure => simp [intOf]; omega
    · obtain rfl : k = len := by omega
      have htk : os.take k = os := List.take_of_length_le (by rw [HL.out]; exact Nat.le_refl _)
      rw [htk] at HR
      clear htk
      have hln := HR.out.q.ln
      generalize puts m os = L at *
      have HLN := Lib.hid (Len_any wr g S k m L HR.out.q (by omega))
      generalize hll : L.length = ll at *
      have HLL := Lib.hid hll
      clear hll
      go_wp2_with fail
      refine HLN.out.mono ?_
      rintro e w3 ⟨rfl, b3⟩
      have HB : Hid (Bat w w3 g S k m L L (-1) 0 0) := Lib.hid ⟨HR.out.below b3, List.Sublist.refl _, fun t ht => by have := (HR.out.q.ok.b t ht).2.2.2.2.2.2.1; omega, by omega, by omega, by omega⟩
      clear b3 HLN HR
      go_wp2_with fail
      go_loopw [9, 11, 12] (fun la se n wq => ∃ (last : Int) (j s : Nat) (M : List It) (S : Nat → Prop), la = .int .i64 last ∧ se = .int .i64 s ∧ n = .int .i64 j ∧ Hid (Bat w wq g S k m L M last j s)) (fun _ _ n _ => m + 1 - (intOf n).toNat)
      case atStart => exact ⟨-1, 0, 0, L, S, rfl, rfl, rfl, HB⟩
      case round =>
        clear HB
        obtain ⟨wq, rfl⟩ : ∃ wq : World, wq = wr := ⟨_, rfl⟩
        obtain ⟨last, j, s, M, S, rfl, rfl, rfl, HB⟩ := hrel
        have hjm : (j : Int) ≤ (m : Int) := by have := HB.out.j; have := HB.out.l; omega
        have hsl : s + M.length = ll := by rw [HB.out.s, HLL.out]
        have HLN := Lib.hid (fun (W : World) (hb : Below wq.heap.size wq W) => Len_any W g S k m M (HB.out.r.q.below hb) (by omega))
        have hle : (j : Int) ≤ (m : Int) := hjm
        by_cases hM : M = []
        · have h0 : M.length = 0 := by rw [hM]; rfl
          rw [h0] at HLN hsl
          obtain rfl : s = ll := by omega
          clear hM h0
          go_wp2_with fail
          refine (HLN.out _ (Below.refl _ _)).mono ?_
          rintro e w4 ⟨rfl, b4⟩
          have B4 := Lib.hid b4
          clear b4
          go_wp2_with fail
          refine (HLN.out _ B4.out).mono ?_
          rintro e w5 ⟨rfl, b5⟩
          have hz4 := B4.out.size
          go_wp2_with fail
          go_ret
          exact ⟨rfl, HB.out.r.b.trans ((B4.out.trans (b5.mono hz4)).mono HB.out.r.b.size)⟩
        · have hMl : 0 < M.length := List.length_pos_iff.2 hM
          have hok := HB.out.r.q.ok
          obtain ⟨⟨t0, ht0, hlt0⟩, hmin⟩ := least_of (fun t ht => (hok.b t ht).2.2.2.2.2.2.1) hM
          have hpv1 := HB.out.lt t0 ht0
          have hpv2 := (hok.b t0 ht0).2.2.2.2.2.2
          rw [← hlt0] at hpv1 hpv2
          have HLE := Lib.hid (fun (W : World) (hb : Below wq.heap.size wq W) => Least_any W g S k m M (HB.out.r.q.below hb) (by omega))
          have HBA := Lib.hid (fun (W : World) (hb : Below wq.heap.size wq W) => Batch_any W g S k m M (HB.out.r.q.below hb) (by omega))
          have hrl := rest_len M (least M)
          have hr0 : 0 < (row M (least M)).length := List.length_pos_iff.2 (fun e => by
            have := mem_row.2 ⟨ht0, hlt0.symm⟩
            rw [e] at this
            exact absurd this (List.not_mem_nil))
          have HRA := Lib.hid (row_all HAL.out HB.out.sub (least M))
          have HMIN := Lib.hid hmin
          clear hlt0 ht0 hmin hM
          generalize least M = pv at *
          generalize hrw : row M pv = R at *
          have HRW := Lib.hid hrw
          clear hrw
          generalize hrll : R.length = rl at *
          have HRL := Lib.hid hrll
          clear hrll
          generalize hml : M.length = ml at *
          have HML := Lib.hid hml
          clear hml
          go_wp2_with fail
          refine (HLN.out _ (Below.refl _ _)).mono ?_
          rintro e w4 ⟨rfl, b4⟩
          have B4 := Lib.hid b4
          clear b4
          go_wp2_with fail
          refine (HLE.out _ B4.out).mono ?_
          rintro e w5 ⟨rfl, b5⟩
          have B5 := Lib.hid (B4.out.trans (b5.mono B4.out.size))
          clear b5
          go_wp2_with fail
          refine (HBA.out _ B5.out).mono ?_
          rintro e w6 ⟨v, S6, rfl, r6, q6, st6, -⟩
          have R6 := Lib.hid ((HB.out.r.below B5.out).step q6 st6)
          rw [← HRL.out] at r6
          obtain ⟨A6, c6, rfl, -, -, hc6⟩ := row_cells r6
          have HC6 := Lib.hid hc6
          rw [HRL.out] at r6 ⊢
          clear r6 q6 st6 hc6 HLN HLE HBA
          have hrz : ((rl : Int) == 0) = false := by rw [beq_eq_false_iff_ne]; omega
          go_wp2_with fail
          go_loopw [11, 15, 16] (fun se at' kk wz => ∃ (i : Nat) (av : Int), i ≤ rl ∧ kk = .int .i64 i ∧ se = .int .i64 (s + i : Nat) ∧ at' = .int .i64 av ∧ -1 ≤ av ∧ Hid (∀ (i' : Nat) (t : It), i ≤ i' → R[i']? = some t → av < (tri m t.id os).i) ∧ Below w6.heap.size w6 wz) (fun _ _ kk _ => rl - (intOf kk).toNat)
          case atStart => exact ⟨0, -1, by omega, rfl, rfl, rfl, by omega, Lib.hid (fun i' t _ ht => by obtain ⟨-, -, ⟨i, o, e, _⟩, -⟩ := HRA.out i' t ht; omega), Below.refl _ _⟩
          case round =>
            obtain ⟨wz, rfl⟩ : ∃ wz : World, wz = wr := ⟨_, rfl⟩
            obtain ⟨i, av, hi, rfl, rfl, rfl, hav, HAV, hbz⟩ := hrel
            have HBZ := Lib.hid hbz
            clear hbz
            by_cases hir : i < rl
            · obtain ⟨t, htR⟩ : ∃ t, R[i]? = some t := ⟨_, List.getElem?_eq_getElem (by rw [HRL.out]; exact hir)⟩
              obtain ⟨htM, htp, ⟨fi, o, hfi, hfl, hfo, hfp, hff⟩, hnext⟩ := HRA.out i t htR
              have hav2 := HAV.out i t (Nat.le_refl _) htR
              obtain ⟨bR, rfl, hbR, -, hcR⟩ := HC6.out i t htR
              rw [HL.out] at hfl
              obtain ⟨o2, b, off, hko, hok2, rfl, hb, hc⟩ := HO.out.one HK.out fi (by rw [HL.out]; exact hfl)
              rw [hfo] at hko
              injection hko with hko
              subst hko
              have HNX := Lib.hid hnext
              have HFI := Lib.hid hfi
              have HFF := Lib.hid hff
              have HCF : Hid (∀ W : World, Below w.heap.size w W → W.cell? ⟨b, off + fi * 5 + 1, none⟩ = some (.int .i64 pv)) := Lib.hid (fun W hb => by rw [← hfp]; exact (hc W hb).2.1)
              have HCR : Hid (∀ W : World, Below wz.heap.size wz W → W.cell? ⟨bR, i * 3, none⟩ = some (.int .i64 t.id) ∧ W.cell? ⟨bR, i * 3 + 1, none⟩ = some (.int .i64 t.fl)) := Lib.hid (fun W hb => by
                obtain ⟨x0, x1, -⟩ := hcR W ((hb.block _ (Nat.lt_of_lt_of_le hbR HBZ.out.size)).trans (HBZ.out.block _ hbR))
                exact ⟨x0, x1⟩)
              have HWZ : Hid (Below w.heap.size w wz) := Lib.hid (R6.out.b.trans (HBZ.out.mono R6.out.b.size))
              have hbRz : bR < wz.heap.size := Nat.lt_of_lt_of_le hbR HBZ.out.size
              have hav3 : av < (fi : Int) := by rw [← hfi]; exact hav2
              rw [hfi] at hav2
              clear hnext hfi hff hc hcR htM hav2 hfp hfo hok2 htR
              obtain ⟨ti, tf, tc, tp⟩ := t
              simp only at HNX HFI HFF HCR htp
              go_wp2_with fail
              go_loopw [17, 18, 19] (fun f fl ii wy => ∃ q : Nat, q ≤ k ∧ ii = .int .i64 q ∧ f = .int .i64 (tri m ti (os.take q)).i ∧ fl = .int .i64 (tri m ti (os.take q)).f ∧ Below wz.heap.size wz wy) (fun _ _ ii _ => k - (intOf ii).toNat)
              case atStart => exact ⟨0, Nat.zero_le _, rfl, rfl, rfl, Below.refl _ _⟩
              case round =>
                obtain ⟨wy, rfl⟩ : ∃ wy : World, wy = wr := ⟨_, rfl⟩
                obtain ⟨q, hq, rfl, rfl, rfl, hby⟩ := hrel
                have HBY := Lib.hid hby
                clear hby
                by_cases hqk : q < k
                · obtain ⟨o, b2, off2, hko, hok, hbe, hb2, hc⟩ := HO.out.one HK.out q (by rw [HL.out]; exact hqk)
                  injection hbe with hbe
                  injection hbe with e1 e2 e3
                  subst e1 e2
                  obtain ⟨c0, c1, c2, c3, c4⟩ := hc wy (HWZ.out.trans (HBY.out.mono HWZ.out.size))
                  obtain ⟨y0, y1⟩ := HCR.out wy HBY.out
                  have hbRy : bR < wy.heap.size := Nat.lt_of_lt_of_le hbRz HBY.out.size
                  have HST : Hid (tri m ti (os.take (q + 1)) = tri1 m ti (tri m ti (os.take q)) o) := Lib.hid (by
                    obtain ⟨hk2, hke⟩ := List.getElem?_eq_some_iff.1 hko
                    rw [List.take_succ_eq_append_getElem hk2, tri_snoc, hke])
                  have HTN : Hid ((tri m ti (os.take q)).n = q) := Lib.hid (by rw [tri_n, List.length_take, HL.out]; omega)
                  clear hko hok hc e3
                  obtain ⟨kd, pr, oi, fl, ct⟩ := o
                  simp only at c0 c1 c2 c3 c4 HST
                  generalize tri m ti (os.take q) = T at *
                  obtain ⟨Tn, Ti, Tf⟩ := T
                  simp only at HTN ⊢
                  have HB8 : Hid (Below wz.heap.size wz (wy.alloc (.cells #[.int .i64 kd, .int .i64 pr, .int .i64 oi, .int .i64 fl, .int .i64 ct] 30))) := Lib.hid (HBY.out.alloc HBY.out.size _)
                  go_upto_region 32 with (fail)
                  obtain ⟨W8, hW8⟩ : ∃ W8, W8 = wy.alloc (.cells #[.int .i64 kd, .int .i64 pr, .int .i64 oi, .int .i64 fl, .int .i64 ct] 30) := ⟨_, rfl⟩
                  have K8 := cell_of (show W8.heap[wy.heap.size]? = some (.cells #[.int .i64 kd, .int .i64 pr, .int .i64 oi, .int .i64 fl, .int .i64 ct] 30 (0, 0)) from by rw [hW8]; exact new_block _ _)
                  have k1 := (K8 1).1; have k2 := (K8 2).1; have k3 := (K8 3).1
                  simp at k1 k2 k3
                  obtain ⟨y0, y1⟩ := HCR.out W8 (by rw [hW8]; exact HB8.out)
                  rw [← hW8] at HB8 ⊢
                  clear K8 hW8
                  generalize wy.heap.size = bx at *
                  go_cut [132] (fun s132 wx => ∃ c : Bool, s132 = .bool c ∧ (c = true → ¬ Pt m ti ⟨kd, pr, oi, fl, ct⟩) ∧ (c = false → Pt m ti ⟨kd, pr, oi, fl, ct⟩) ∧ Below wz.heap.size wz wx ∧ wx.cell? ⟨bx, 3, none⟩ = some (.int .i64 fl))
                  case first =>
                    by_cases g1 : oi = ti
                    case neg =>
                      have e1 : (oi != ti) = true := by simpa using g1
                      have HNP : Hid (¬ Pt m ti ⟨kd, pr, oi, fl, ct⟩) := Lib.hid (fun h => g1 h.1)
                      clear g1
                      go_quiet (fail)
                      go_wp2_with fail
                      go_meet
                      exact ⟨true, rfl, fun _ => HNP.out, fun h => (by cases h), below_drewN HB8.out _, k3⟩
                    case pos =>
                    have e1 : (oi != ti) = false := by simpa using g1
                    have G1 := Lib.hid g1
                    clear g1
                    by_cases g2 : pr < 0
                    case pos =>
                      have HNP : Hid (¬ Pt m ti ⟨kd, pr, oi, fl, ct⟩) := Lib.hid (fun h => by have := h.2.1; simp only at this; omega)
                      go_quiet (fail)
                      go_wp2_with fail
                      go_meet
                      exact ⟨true, rfl, fun _ => HNP.out, fun h => (by cases h), below_drewN HB8.out _, k3⟩
                    case neg =>
                    have g2' : 0 ≤ pr := by omega
                    by_cases g3 : (m : Int) ≤ pr
                    case pos =>
                      have HNP : Hid (¬ Pt m ti ⟨kd, pr, oi, fl, ct⟩) := Lib.hid (fun h => by have := h.2.2.1; simp only at this; omega)
                      clear g2
                      go_quiet (fail)
                      go_wp2_with fail
                      go_meet
                      exact ⟨true, rfl, fun _ => HNP.out, fun h => (by cases h), below_drewN HB8.out _, k3⟩
                    case neg =>
                    have g3' : pr < (m : Int) := by omega
                    by_cases g4 : fl < 0
                    case pos =>
                      have HNP : Hid (¬ Pt m ti ⟨kd, pr, oi, fl, ct⟩) := Lib.hid (fun h => by have := h.2.2.2; simp only at this; omega)
                      clear g2 g3
                      go_quiet (fail)
                      go_wp2_with fail
                      go_meet
                      exact ⟨true, rfl, fun _ => HNP.out, fun h => (by cases h), below_drewN HB8.out _, k3⟩
                    case neg =>
                    have g4' : 0 ≤ fl := by omega
                    have HP : Hid (Pt m ti ⟨kd, pr, oi, fl, ct⟩) := Lib.hid ⟨G1.out, g2', g3', g4'⟩
                    clear g2 g3 g4
                    go_quiet (fail)
                    go_wp2_with fail
                    go_meet
                    exact ⟨false, by rw [decide_eq_false (by omega), decide_eq_false (by omega), decide_eq_false (by omega)]; rfl, fun h => (by cases h), fun _ => HP.out, below_drewN HB8.out _, k3⟩
                  case rest =>
                    obtain ⟨c, rfl, hc1, hc2, hb8, k3⟩ := hcut
                    have HB9 := Lib.hid hb8; have HC1 := Lib.hid hc1; have HC2 := Lib.hid hc2
                    clear hb8 hc1 hc2 y0 y1 c0 c1 c2 c3 c4
                    cases c with
                    | true =>
                      go_wp2_with fail
                      go_roundw
                      case rel => exact ⟨q + 1, by omega, by go_num, by rw [HST.out, tri1, if_neg (HC1.out rfl)], by rw [HST.out, tri1, if_neg (HC1.out rfl)], HB9.out⟩
                      case measure => simp [intOf]; omega
                    | false =>
                      by_cases g5 : Ti < 0
                      · go_wp2_with fail
                        go_roundw
                        case rel => exact ⟨q + 1, by omega, by go_num, by rw [HST.out, tri1, if_pos (HC2.out rfl)]; simp only; rw [if_pos g5, HTN.out], by rw [HST.out, tri1, if_pos (HC2.out rfl)], HB9.out⟩
                        case measure => simp [intOf]; omega
                      · go_wp2_with fail
                        go_roundw
                        case rel => exact ⟨q + 1, by omega, by go_num, by rw [HST.out, tri1, if_pos (HC2.out rfl)]; simp only; rw [if_neg g5], by rw [HST.out, tri1, if_pos (HC2.out rfl)], HB9.out⟩
                        case measure => simp [intOf]; omega
                · obtain rfl : q = k := by omega
                  have htk : os.take q = os := List.take_of_length_le (by rw [HL.out]; exact Nat.le_refl _)
                  rw [htk, HFI.out, HFF.out]
                  have hcf := HCF.out wy (HWZ.out.trans (HBY.out.mono HWZ.out.size))
                  obtain ⟨y0, y1⟩ := HCR.out wy HBY.out
                  clear htk
                  go_wp2_with fail
                  go_roundw
                  case rel => exact ⟨i + 1, fi, by omega, by go_num, by go_num, rfl, by omega, Lib.hid (fun i' t' hi' ht' => by rw [← HFI.out]; exact HNX.out i' t' hi' ht'), HBZ.out.trans (HBY.out.mono HBZ.out.size)⟩
                  case measure => simp [intOf]; omega
            · obtain rfl : i = rl := by omega
              go_wp2_with fail
              go_roundw
              case rel => exact ⟨pv, j + 1, s + i, restL M pv, S6, rfl, rfl, by go_num, Lib.hid ⟨R6.out.below HBZ.out, (List.filter_sublist).trans HB.out.sub, fun t ht => by
                have h1 := List.mem_filter.1 ht
                have h2 := HMIN.out t h1.1
                have h3 : t.pr ≠ pv := by simpa using h1.2
                omega, by have := HB.out.j; omega, by omega, by have := HB.out.s; have := HLL.out; omega⟩⟩
              case measure => simp [intOf]; omega

open Go.ChangeShapes Go.WideShapes Go.ChangeAt in
theorem all_top {H : Type} {enc : TypeId × Value → H} {base : Nat} {held : Bool} (c : Int) (v : Value) (d : DataW H) (p : List MemPlace) (w : World) (w0 : (Lit.int .i64 c).wf = true) {r : Reach} {b0 : Nat} (hv : Value.okWide Try.prog w r b0 22 v) (h : DataW.Trod enc Try.prog w base (fun _ => true) held 22 v d p) :
    Calls Try.prog 3 #[.int .i64 c, v] w fun e w' => e = .returned (.bool true) ∧ Below w.heap.size w w' := by
  obtain ⟨a, cap, os, rfl, hm, ho, hk⟩ := open_ops hv h
  by_cases hin : (1 ≤ c ∧ c ≤ 8) ∧ os.length ≤ 100
  · obtain ⟨C, rfl⟩ := Int.eq_ofNat_of_zero_le (show 0 ≤ c by omega)
    exact all_in C a cap os w (by omega) (by omega) hin.2 ho hk
  · exact all_out c a os.length cap w hm (by omega)
end Go.Proofs.Ytncfggcbdliepaa
