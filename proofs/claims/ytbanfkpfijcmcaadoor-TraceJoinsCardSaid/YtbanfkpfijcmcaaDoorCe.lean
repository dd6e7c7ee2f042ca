/- Same. -/
import Derived.Test.YtbanfkpfijcmcaaDoorC
namespace Go.Proofs.YtbanfkpfijcmcaaDoor
open Go.RowKit
set_option linter.unusedSimpArgs false
set_option linter.unusedVariables false
set_option maxRecDepth 100000

set_option maxHeartbeats 4000000 in
theorem eqf_any (w : World) (va vb : Value) (ea eb : List En) (ha : Rd w va ea) (hb : Rd w vb eb) (hla : ea.length ≤ 10000000) (hlb : eb.length ≤ 10000000) :
    Calls Tryd.prog 21 #[va, vb, .func (.func 22) #[] #[]] w fun e w' => e = .returned (.bool (sameF ea eb)) ∧ Below w.heap.size w w' := by
  obtain ⟨A, c, rfl, hac, hcm, hA⟩ := ha.one
  obtain ⟨A', c', rfl, hac', hcm', hB⟩ := hb.one
  have HA := Lib.hid hA; have HB := Lib.hid hB
  clear hA hB ha hb
  unfold maxLen at hcm hcm'
  generalize hM : ea.length = n at *
  generalize hM2 : eb.length = m at *
  have HN := Lib.hid hM; have HM := Lib.hid hM2
  clear hM hM2
  by_cases hnm : n = m
  · subst hnm
    go_enter Tryd.func21, Tryd.ntmps21
    go_wp2_with fail
    go_loopw [17] (fun i wr => ∃ k : Nat, k ≤ n ∧ k ≤ cpl ea eb ∧ i = .int .i64 k ∧ Below w.heap.size w wr) (fun i _ => n - (intOf i).toNat)
    case atStart => exact ⟨0, Nat.zero_le _, Nat.zero_le _, rfl, Below.refl _ _⟩
    case round =>
      obtain ⟨wq, rfl⟩ : ∃ wq : World, wq = wr := ⟨_, rfl⟩
      obtain ⟨k, hk, hkc, rfl, hW⟩ := hrel
      have HKC := Lib.hid hkc
      clear hkc
      by_cases hkn : k < n
      · obtain ⟨x, Ad, cd, b, off, hx, rfl, hdx, hcx⟩ := HA.out k hkn
        obtain ⟨y, Ad', cd', b', off', hy, rfl, hdy, hcy⟩ := HB.out k hkn
        obtain ⟨c0, c1, c2, c3, c4, c5, c6⟩ := hcx _ hW
        have hkn' : (k : Int) < (n : Int) := by omega
        have hsz := hW.size
        have KB : Hid (XBx (wq.alloc (.cells #[.int .i64 x.kd, .int .u64 x.tk, .int .i64 x.id, .int .i64 x.fl, .int .i64 x.nn, .int .i64 x.er, (.slice Ad x.dt.length cd)] 29)) wq.heap.size ⟨x, (.slice Ad x.dt.length cd)⟩) := Lib.hid (new_block _ _)
        have B1 : Hid (Below w.heap.size w (wq.alloc (.cells #[.int .i64 x.kd, .int .u64 x.tk, .int .i64 x.id, .int .i64 x.fl, .int .i64 x.nn, .int .i64 x.er, (.slice Ad x.dt.length cd)] 29))) := Lib.hid (hW.alloc hsz _)
        obtain ⟨d0, d1, d2, d3, d4, d5, d6⟩ := hcy _ B1.out
        have HST := Lib.hid (fun (h : oneF x y = false) => (parts_stop HKC.out hx hy h).2)
        have HGO := Lib.hid (fun (h : oneF x y = true) => parts_go HKC.out hx hy h)
        have DX := Lib.hid hdx; have DY := Lib.hid hdy
        clear hcx hcy hx hy hdx hdy
        go_upto_region 6 with (fail)
        generalize wq.alloc (.cells #[.int .i64 x.kd, .int .u64 x.tk, .int .i64 x.id, .int .i64 x.fl, .int .i64 x.nn, .int .i64 x.er, (.slice Ad x.dt.length cd)] 29) = w1 at *
        generalize wq.heap.size = bx at *
        clear c0 c1 c2 c3 c4 c5 c6
        have hz1 := B1.out.size
        have KB2 : Hid (XBx (w1.alloc (.cells #[.int .i64 y.kd, .int .u64 y.tk, .int .i64 y.id, .int .i64 y.fl, .int .i64 y.nn, .int .i64 y.er, (.slice Ad' y.dt.length cd')] 29)) w1.heap.size ⟨y, (.slice Ad' y.dt.length cd')⟩) := Lib.hid (new_block _ _)
        have B2 : Hid (Below w.heap.size w (w1.alloc (.cells #[.int .i64 y.kd, .int .u64 y.tk, .int .i64 y.id, .int .i64 y.fl, .int .i64 y.nn, .int .i64 y.er, (.slice Ad' y.dt.length cd')] 29))) := Lib.hid (B1.out.alloc hz1 _)
        have KA2 : Hid (XBx (w1.alloc (.cells #[.int .i64 y.kd, .int .u64 y.tk, .int .i64 y.id, .int .i64 y.fl, .int .i64 y.nn, .int .i64 y.er, (.slice Ad' y.dt.length cd')] 29)) bx ⟨x, (.slice Ad x.dt.length cd)⟩) := Lib.hid (KB.out.below ((Below.refl _ _).alloc (Nat.le_refl _) _))
        go_upto_region 7 with (fail)
        generalize w1.alloc (.cells #[.int .i64 y.kd, .int .u64 y.tk, .int .i64 y.id, .int .i64 y.fl, .int .i64 y.nn, .int .i64 y.er, (.slice Ad' y.dt.length cd')] 29) = w2 at *
        generalize w1.heap.size = by_ at *
        clear d0 d1 d2 d3 d4 d5 d6
        obtain ⟨x0, x1, x2, x3, x4, x5, x6⟩ := KA2.out.cells
        obtain ⟨y0, y1, y2, y3, y4, y5, y6⟩ := KB2.out.cells
        simp only at x0 x1 x2 x3 x4 x5 x6 y0 y1 y2 y3 y4 y5 y6
        have HO := Lib.hid (one_any w2 ⟨x, (.slice Ad x.dt.length cd)⟩ ⟨y, (.slice Ad' y.dt.length cd')⟩ (DX.out.below B2.out) (DY.out.below B2.out))
        unfold agX at HO
        simp only at HO
        generalize oneF x y = o at *
        go_wp2_with fail
        refine HO.out.mono ?_
        rintro e u1 ⟨rfl, bb⟩
        have C1 := Lib.hid bb
        clear bb
        cases o
        · go_wp2_with fail
          go_ret
          exact ⟨by rw [HST.out (by first | rfl | trivial)]; rfl, B2.out.trans (C1.out.mono B2.out.size)⟩
        · go_wp2_with fail
          go_roundw
          case rel => exact ⟨k + 1, by omega, HGO.out (by first | rfl | trivial), by go_num, B2.out.trans (C1.out.mono B2.out.size)⟩
          case measure => simp [intOf]; omega
      · obtain rfl : k = n := by omega
        have HR := Lib.hid (parts_end HKC.out (by rw [HN.out]; exact Nat.le_refl _) (by rw [HM.out]; exact Nat.le_refl _)).2
        go_wp2_with fail
        go_ret
        exact ⟨by rw [HR.out]; rfl, hW⟩
  · have hz : ((n : Int) != (m : Int)) = true := by rw [bne_iff_ne]; omega
    have HR : Hid (sameF ea eb = false) := Lib.hid (by
      unfold sameF
      rw [decide_eq_false]
      have := HN.out; have := HM.out; omega)
    go_enter Tryd.func21, Tryd.ntmps21
    go_wp2_with fail
    go_ret
    exact ⟨by rw [HR.out]; rfl, Below.refl _ _⟩
theorem same_any (w : World) (va vb : Value) (ea eb : List En) (ha : Rd w va ea) (hb : Rd w vb eb) (hla : ea.length ≤ 10000000) (hlb : eb.length ≤ 10000000) :
    Calls Tryd.prog 10 #[va, vb] w fun e w' => e = .returned (.bool (sameF ea eb)) ∧ Below w.heap.size w w' := by
  have HP := Lib.hid (eqf_any w va vb ea eb ha hb hla hlb)
  clear ha hb
  go_enter Tryd.func10, Tryd.ntmps10
  go_wp2_with fail
  refine HP.out.mono ?_
  rintro e w1 ⟨rfl, b1⟩
  go_wp2_with fail
  go_ret
  exact ⟨rfl, b1⟩

end Go.Proofs.YtbanfkpfijcmcaaDoor
