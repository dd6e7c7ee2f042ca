/- Bytes. -/
import Derived.Test.YtbanfkpfijcmcaaGreatDoorNa
namespace Go.Proofs.YtbanfkpfijcmcaaGreatDoor
open Go.RowKit
set_option linter.unusedSimpArgs false
set_option linter.unusedVariables false
set_option maxRecDepth 100000

theorem byF_len (l : List En) (id n : Int) : (byF l id n).length ≤ grt l := by
  induction l with
  | nil => exact Nat.zero_le _
  | cons x r ih =>
    have e1 : byF (x :: r) id n = (if byP id n x then x.dt else []) ++ byF r id n := by
      unfold byF
      by_cases h : byP id n x <;> simp [List.filter_cons, h]
    have e2 : grt (x :: r) = (10 + x.dt.length) + grt r := by simp [grt]
    rw [e1, e2, List.length_append]
    split
    · omega
    · simp; omega
theorem grt_take (l : List En) (k : Nat) : grt (l.take k) ≤ grt l := by
  have : grt l = grt (l.take k) + grt (l.drop k) := by
    unfold grt
    rw [← List.sum_append, ← List.map_append, List.take_append_drop]
  omega

set_option maxHeartbeats 1000000 in
theorem byp_any (w : World) (x : En) (Ad : Option Addr) (n cd ib nb : Nat) (id k : Int) (hi : w.cell? ⟨ib, 0, none⟩ = some (.int .i64 id)) (hn : w.cell? ⟨nb, 0, none⟩ = some (.int .i64 k)) :
    Calls Tryz.prog 26 #[agE x (.slice Ad n cd), .pointer (some ⟨ib, 0, none⟩), .pointer (some ⟨nb, 0, none⟩)] w fun e w' => e = .returned (.bool (byP id k x)) ∧ Below w.heap.size w w' := by
  unfold agE byP
  have hlt := (cell_lt hi).1
  have hlt2 := (cell_lt hn).1
  simp only at hlt hlt2
  have c0 : (w.alloc (.cells #[.int .i64 x.kd, .int .u64 x.tk, .int .i64 x.id, .int .i64 x.fl, .int .i64 x.nn, .int .i64 x.er, .slice Ad n cd] 28)).cell? ⟨ib, 0, none⟩ = some (.int .i64 id) := (((Below.refl w.heap.size w).alloc (Nat.le_refl _) _).cell (p := ⟨ib, 0, none⟩) hlt).trans hi
  have d0 : (w.alloc (.cells #[.int .i64 x.kd, .int .u64 x.tk, .int .i64 x.id, .int .i64 x.fl, .int .i64 x.nn, .int .i64 x.er, .slice Ad n cd] 28)).cell? ⟨nb, 0, none⟩ = some (.int .i64 k) := (((Below.refl w.heap.size w).alloc (Nat.le_refl _) _).cell (p := ⟨nb, 0, none⟩) hlt2).trans hn
  obtain ⟨a1, a2, a3, a4, a5, a6, ad⟩ := x
  simp only at c0 d0 ⊢
  cases e1 : (a1 == 3)
  case' true =>
    cases e2 : (a3 == id)
    case' true =>
      cases e3 : (a5 == k)
  all_goals
    go_enter Tryz.func26, Tryz.ntmps26
    go_wp2_with fail
    go_ret
    exact ⟨rfl, (Below.refl _ _).alloc (Nat.le_refl _) _⟩
theorem byd_any (w : World) (x : En) (Ad : Option Addr) (n cd : Nat) :
    Calls Tryz.prog 27 #[agE x (.slice Ad n cd)] w fun e w' => e = .returned (.slice Ad n cd) ∧ Below w.heap.size w w' := by
  unfold agE
  go_enter Tryz.func27, Tryz.ntmps27
  go_wp2_with fail
  go_ret
  exact ⟨rfl, (Below.refl _ _).alloc (Nat.le_refl _) _⟩

set_option maxHeartbeats 4000000 in
theorem bypick_any (w : World) (va : Value) (es : List En) (ib nb : Nat) (id q : Int) (hi : w.cell? ⟨ib, 0, none⟩ = some (.int .i64 id)) (hq : w.cell? ⟨nb, 0, none⟩ = some (.int .i64 q)) (ha : Rd w va es) (hla : es.length ≤ 1000000) (hg : grt es ≤ 10000000) :
    Calls Tryz.prog 25 #[va, .func (.func 26) #[] #[.pointer (some ⟨ib, 0, none⟩), .pointer (some ⟨nb, 0, none⟩)], .func (.func 27) #[] #[]] w fun e w' => (∃ v', e = .returned v' ∧ DataAt w' v' (byF es id q)) ∧ Below w.heap.size w w' := by
  obtain ⟨i5, hi0, hz0, hz1, hz2⟩ := info_parts info5
  have I5 := Lib.hid hi0; have Z5 := Lib.hid hz0; have S5 := Lib.hid hz1; have Y5 := Lib.hid hz2
  clear hi0 hz0 hz1 hz2
  have hlt := (cell_lt hi).1
  have hlt2 := (cell_lt hq).1
  simp only at hlt hlt2
  obtain ⟨A, c, rfl, hac, hcm, hA⟩ := ha.one
  have HA := Lib.hid hA
  have HI : Hid (∀ W, Below w.heap.size w W → W.cell? ⟨ib, 0, none⟩ = some (.int .i64 id)) := Lib.hid (fun W h => (h.cell (p := ⟨ib, 0, none⟩) hlt).trans hi)
  have HJ : Hid (∀ W, Below w.heap.size w W → W.cell? ⟨nb, 0, none⟩ = some (.int .i64 q)) := Lib.hid (fun W h => (h.cell (p := ⟨nb, 0, none⟩) hlt2).trans hq)
  have HDL : Hid (∀ k, (byF (es.take k) id q).length ≤ 10000000) := Lib.hid (fun k => Nat.le_trans (byF_len _ _ _) (Nat.le_trans (grt_take es k) hg))
  have HT : Hid (es.take es.length = es) := Lib.hid (List.take_length ..)
  clear hA ha hi hq hg
  unfold maxLen at hcm
  generalize hM : es.length = n at *
  clear hM
  go_enter Tryz.func25, Tryz.ntmps25
  go_wp2_with fail
  go_loopw [7, 12] (fun o i wr => ∃ k : Nat, k ≤ n ∧ i = .int .i64 k ∧ Hid (wr.ownsRow w.heap.size 5 1 o (byF (es.take k) id q).length (byt (byF (es.take k) id q))) ∧ Hid (Below w.heap.size w wr)) (fun _ i _ => n - (intOf i).toNat)
  case atStart => exact ⟨0, Nat.zero_le _, rfl, Lib.hid (World.ownsRow_nil _ _ _ _), Lib.hid (Below.refl _ _)⟩
  case round =>
    obtain ⟨w7, rfl⟩ : ∃ w7 : World, w7 = wr := ⟨_, rfl⟩
    obtain ⟨k, hk, rfl, HP, HB⟩ := hrel
    obtain ⟨A1, c1, rfl, -⟩ := row_form HP.out
    by_cases hkn : k < n
    · obtain ⟨x, Ad, cd, b, off, hx, rfl, hdx, hcx⟩ := HA.out k hkn
      obtain ⟨c0, c1', c2, c3, c4, c5, c6⟩ := hcx _ HB.out
      have hst : es.take (k + 1) = es.take k ++ [x] := by rw [List.take_add_one, hx]; rfl
      have HS := Lib.hid (byF_snoc (es.take k) x id q)
      rw [← hst] at HS
      have HLK := HDL.out k
      have HLK1 := Lib.hid (HDL.out (k + 1))
      have hkn' : (k : Int) < (n : Int) := by omega
      have B1 : Hid (Below w7.heap.size w7 (w7.alloc (.cells #[.int .i64 x.kd, .int .u64 x.tk, .int .i64 x.id, .int .i64 x.fl, .int .i64 x.nn, .int .i64 x.er, .slice Ad x.dt.length cd] 28))) := Lib.hid ((Below.refl _ _).alloc (Nat.le_refl _) _)
      have K1 : Hid (XBx (w7.alloc (.cells #[.int .i64 x.kd, .int .u64 x.tk, .int .i64 x.id, .int .i64 x.fl, .int .i64 x.nn, .int .i64 x.er, .slice Ad x.dt.length cd] 28)) w7.heap.size ⟨x, .slice Ad x.dt.length cd⟩) := Lib.hid (new_block _ _)
      have P1 := Lib.hid (row_keep HP.out B1.out)
      have D1 := Lib.hid (HB.out.trans (B1.out.mono HB.out.size))
      have DX := Lib.hid hdx
      clear hcx hx hst hdx HP HB
      go_upto_region 5 with (fail)
      generalize w7.alloc (.cells #[.int .i64 x.kd, .int .u64 x.tk, .int .i64 x.id, .int .i64 x.fl, .int .i64 x.nn, .int .i64 x.er, .slice Ad x.dt.length cd] 28) = w1 at *
      generalize w7.heap.size = bx at *
      clear c0 c1' c2 c3 c4 c5 c6
      obtain ⟨a0, a1, a2, a3, a4, a5, a6⟩ := K1.out.cells
      simp only at a0 a1 a2 a3 a4 a5 a6
      have HOP := Lib.hid (byp_any w1 x Ad x.dt.length cd ib nb id q (HI.out _ D1.out) (HJ.out _ D1.out))
      unfold agE at HOP
      generalize byF (es.take k) id q = D at *
      generalize hdn : D.length = dn at *
      have HDN := Lib.hid hdn
      clear hdn
      go_wp2_with fail
      refine HOP.out.mono ?_
      rintro e w2 ⟨rfl, b2⟩
      have P2 := Lib.hid (row_keep P1.out b2)
      have D2 := Lib.hid (D1.out.trans (b2.mono D1.out.size))
      have K2 := Lib.hid (K1.out.below b2)
      clear b2 a0 a1 a2 a3 a4 a5 a6 P1 K1 B1 HOP D1
      cases ho : byP id q x
      · rw [ho] at HS
        go_wp2_with fail
        go_roundw
        case rel => exact ⟨k + 1, by omega, by go_num, Lib.hid (by rw [HS.out]; simp only [Bool.false_eq_true, if_false, HDN.out]; exact P2.out), D2⟩
        case measure => simp [intOf]; omega
      · rw [ho] at HS
        have HLEN : Hid (dn + x.dt.length ≤ 10000000) := Lib.hid (by
          have := HLK1.out
          rw [HS.out] at this
          simp only [if_true, List.length_append, HDN.out] at this
          exact this)
        obtain ⟨a0, a1, a2, a3, a4, a5, a6⟩ := K2.out.cells
        simp only at a0 a1 a2 a3 a4 a5 a6
        have HOT := Lib.hid (byd_any w2 x Ad x.dt.length cd)
        unfold agE at HOT
        go_wp2_with fail
        refine HOT.out.mono ?_
        rintro e w3 ⟨rfl, b3⟩
        have P3 := Lib.hid (row_keep P2.out b3)
        have D3 := Lib.hid (D2.out.trans (b3.mono D2.out.size))
        have hsz3 := D3.out.size
        obtain ⟨-, hnn, hsrc⟩ := DX.out.src
        have HSRC := Lib.hid (hsrc w3 D3.out)
        have HNN := Lib.hid hnn
        have HBL := Lib.hid (byt_len x.dt); have HBO := Lib.hid (byt_one x.dt)
        clear hnn hsrc b3 a0 a1 a2 a3 a4 a5 a6 HOT P2 K2 D2
        generalize hxl : x.dt.length = xl at *
        have HXL := Lib.hid hxl
        clear hxl
        go_wp2_with (at_builtin; refine wpList_append_any rfl _ _ 26 rfl w.heap.size 5 i5 (.int .u8 0) 1 1 Tryz.underlying26 I5.out Z5.out S5.out Y5.out rfl (by decide) _ dn (byt D) rfl P3.out Ad xl cd (byt x.dt) rfl (by rw [HBL.out, Nat.mul_one]) HNN.out HSRC.out HBO.out (by unfold maxLen; have := HLEN.out; omega) (by have := HLEN.out; omega) hsz3 ?_; intro v' w5 hown' hgrow; have P5 := Lib.hid hown'; have D5 : Hid (Below w.heap.size w w5) := Lib.hid (D3.out.grown hgrow D3.out.size (fun k e => (P3.out.lt k e).1)); clear hgrow hown')
        go_roundw
        case rel => exact ⟨k + 1, by omega, by go_num, Lib.hid (by rw [HS.out]; simp only [if_true, List.length_append, HDN.out, HXL.out, byt_append]; exact P5.out), D5⟩
        case measure => simp [intOf]; omega
    · obtain rfl : k = n := by omega
      have HR := Lib.hid (data_own HP.out)
      have HE : Hid (byF es id q = byF (es.take k) id q) := Lib.hid (by rw [HT.out])
      go_wp2_with fail
      go_ret
      exact ⟨⟨_, rfl, by rw [HE.out]; exact HR.out⟩, HB.out⟩

theorem tbytes_any (w : World) (va : Value) (es : List En) (id q : Int) (ha : Rd w va es) (hla : es.length ≤ 1000000) (hg : grt es ≤ 10000000) :
    Calls Tryz.prog 11 #[va, .int .i64 id, .int .i64 q] w fun e w' => (∃ v', e = .returned v' ∧ DataAt w' v' (byF es id q)) ∧ Below w.heap.size w w' := by
  have B1 : Hid (Below w.heap.size w ((w.alloc (.cells #[.int .i64 id] 3)).alloc (.cells #[.int .i64 q] 3))) := Lib.hid (((Below.refl _ w).alloc (Nat.le_refl _) _).alloc (by simp) _)
  have c0 : ((w.alloc (.cells #[.int .i64 id] 3)).alloc (.cells #[.int .i64 q] 3)).cell? ⟨w.heap.size, 0, none⟩ = some (.int .i64 id) := (cell_of ((Below.heap_alloc _ _ _ (by simp)).trans (new_block w (.cells #[.int .i64 id] 3))) 0).1
  have c1 : ((w.alloc (.cells #[.int .i64 id] 3)).alloc (.cells #[.int .i64 q] 3)).cell? ⟨w.heap.size + 1, 0, none⟩ = some (.int .i64 q) := by
    have := (cell_of (new_block (w.alloc (.cells #[.int .i64 id] 3)) (.cells #[.int .i64 q] 3)) 0).1
    rw [World.size_alloc] at this
    exact this
  have HP := Lib.hid (bypick_any _ va es w.heap.size (w.heap.size + 1) id q c0 c1 (ha.below B1.out) hla hg)
  clear ha hg c0 c1
  go_enter Tryz.func11, Tryz.ntmps11
  go_wp2_with fail
  refine HP.out.mono ?_
  rintro e w2 ⟨⟨v', rfl, r2⟩, b2⟩
  have R2 := Lib.hid r2; have B2 := Lib.hid b2
  clear r2 b2
  go_wp2_with fail
  go_ret
  exact ⟨⟨_, rfl, R2.out⟩, B1.out.trans (B2.out.mono (by simp; omega))⟩
end Go.Proofs.YtbanfkpfijcmcaaGreatDoor
