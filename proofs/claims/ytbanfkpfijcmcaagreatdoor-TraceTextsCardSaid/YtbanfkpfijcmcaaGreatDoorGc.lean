/- The document's Check and Text. -/
import Derived.Test.YtbanfkpfijcmcaaGreatDoorGh
import Derived.Test.YtbanfkpfijcmcaaGreatDoorGl
import Derived.Test.YtbanfkpfijcmcaaGreatDoorPz
namespace Go.Proofs.YtbanfkpfijcmcaaGreatDoor
open Go.RowKit
set_option linter.unusedSimpArgs false
set_option linter.unusedVariables false
set_option maxRecDepth 100000

set_option maxHeartbeats 8000000 in
theorem rcheck_any (w : World) (va : Value) (l : List En) (ha : Rd w va l) :
    Calls Tryz.prog 18 #[va] w fun e w' => e = .returned (.int .i64 (errV (checkF l))) ∧ Below w.heap.size w w' := by
  obtain ⟨A, c, rfl, hac, hcm, hA⟩ := ha.one
  by_cases hbig : 20000 < l.length
  · have hb2 : (20000 : Int) < l.length := by omega
    have hr : checkF l = false := by unfold checkF; rw [decide_eq_false (by omega)]; rfl
    rw [hr]
    clear hA ha hr
    generalize l.length = n at *
    go_enter Tryz.func18, Tryz.ntmps18
    go_wp2_with fail
    go_ret
    exact ⟨rfl, Below.refl _ _⟩
  · have hb2 : ¬ (20000 : Int) < l.length := by omega
    have HA := Lib.hid hA
    have HC : Hid (checkF l = allOk l l.length) := Lib.hid (by unfold checkF; rw [decide_eq_true (by omega)]; rfl)
    clear hA ha
    generalize hM : l.length = n at *
    have HM := Lib.hid hM; clear hM
    go_enter Tryz.func18, Tryz.ntmps18
    go_wp2_with fail
    go_loopw [3] (fun i wr => ∃ k : Nat, k ≤ n ∧ i = .int .i64 k ∧ Hid (allOk l k = true) ∧ Hid (Below w.heap.size w wr)) (fun i _ => n - (intOf i).toNat)
    case atStart => exact ⟨0, Nat.zero_le _, rfl, Lib.hid rfl, Lib.hid (Below.refl _ _)⟩
    case round =>
      obtain ⟨k, hk, rfl, OK, BEL⟩ := hrel
      by_cases hkn : k < n
      · obtain ⟨x, Ad, cd, b, off, hx, rfl, hd, hc⟩ := HA.out k hkn
        obtain ⟨c0, c1, c2, c3, c4, c5, c6⟩ := hc wr BEL.out
        have HX := Lib.hid hc
        have hkn2 : (k : Int) < n := by omega
        have HMY := Lib.hid (rmay_any x Ad cd wr)
        have HSUC := Lib.hid (allOk_succ l k)
        have HNO := Lib.hid (allOk_no l k n hkn)
        have HOK : Hid (okAt l k = (mayF x && (k == 0 || (match l[k - 1]? with | none => true | some p => decide (p.tk ≤ x.tk))))) := Lib.hid (by unfold okAt; rw [hx]; rfl)
        clear hd hc hx
        generalize mayF x = m at HMY HOK
        go_wp2_with fail
        refine HMY.out.mono ?_
        rintro e w2 ⟨rfl, b2⟩
        have B2 := Lib.hid (BEL.out.trans (b2.mono BEL.out.size))
        clear b2 c0 c1 c2 c3 c4 c5 c6 HMY
        cases m
        · have HN : Hid (checkF l = false) := Lib.hid (by rw [HC.out]; exact HNO.out (by rw [HOK.out]; rfl))
          clear HOK HNO HSUC
          go_upto_region 7 with (fail)
          go_quiet (fail)
          go_wp2_with fail
          go_ret
          exact ⟨by rw [HN.out]; rfl, by first | exact B2.out | exact below_drewN B2.out _⟩
        · by_cases hk0 : k = 0
          · subst hk0
            have HK : Hid (allOk l 1 = true) := Lib.hid (by rw [HSUC.out, OK.out, HOK.out]; rfl)
            clear HOK HNO HSUC
            go_upto_region 7 with (fail)
            go_quiet (fail)
            go_wp2_with fail
            go_roundw
            case rel => exact ⟨1, by omega, by go_num, HK, Lib.hid (by first | exact B2.out | exact below_drewN B2.out _)⟩
            case measure => simp [intOf]; omega
          · obtain ⟨j, rfl⟩ : ∃ j, k = j + 1 := ⟨k - 1, by omega⟩
            obtain ⟨p, Ap, cp, b', off', hp, hA', hdp, hcp⟩ := HA.out j (by omega)
            cases hA'
            have y1 := (hcp w2 B2.out).2.1
            have x1 := (HX.out w2 B2.out).2.1
            have hj : IntKind.i64.wrap ((j : Int) + 1 - 1) = (j : Int) := by rw [show (j : Int) + 1 - 1 = (j : Int) by omega]; exact IntWalk.i64_in _ (by omega)
            have hjj : IntKind.i64.wrap (j : Int) = (j : Int) := IntWalk.i64_in _ (by omega)
            have hj0 : (0 : Int) < (j : Int) + 1 := by omega
            have hjn : (j : Int) < n := by omega
            rw [show j + 1 - 1 = j from rfl, hp] at HOK
            simp only at HOK
            clear hcp hdp hp HX
            generalize p.tk = ptk at *
            generalize x.tk = xtk at *
            by_cases hle : ptk ≤ xtk
            · have HK : Hid (allOk l (j + 1 + 1) = true) := Lib.hid (by rw [HSUC.out, OK.out, HOK.out, decide_eq_true hle]; simp)
              have hlt : ¬ xtk < ptk := by omega
              clear HOK HNO HSUC
              go_upto_region 7 with (fail)
              go_quiet (fail)
              go_wp2_with fail
              go_roundw
              case rel => exact ⟨j + 1 + 1, by omega, by go_num, HK, Lib.hid (by first | exact B2.out | exact below_drewN B2.out _)⟩
              case measure => simp [intOf]; omega
            · have HN : Hid (checkF l = false) := Lib.hid (by rw [HC.out]; exact HNO.out (by rw [HOK.out, decide_eq_false hle]; simp))
              have hlt : xtk < ptk := by omega
              clear HOK HNO HSUC
              go_upto_region 7 with (fail)
              go_quiet (fail)
              go_wp2_with fail
              go_ret
              exact ⟨by rw [HN.out]; rfl, by first | exact B2.out | exact below_drewN B2.out _⟩
      · obtain rfl : k = n := by omega
        have HY : Hid (checkF l = true) := Lib.hid (by rw [HC.out, OK.out])
        go_wp2_with fail
        go_ret
        exact ⟨by rw [HY.out]; rfl, BEL.out⟩

set_option maxHeartbeats 8000000 in
theorem rtext_any (w : World) (va : Value) (l : List En) (ha : Rd w va l) (hok : ∀ x ∈ l, EnOk x) :
    Calls Tryz.prog 15 #[va] w fun e w' => e = .returned (.tuple #[.string ⟨(if checkF l then textF l else []).toArray⟩, .int .i64 (errV (checkF l))]) ∧ Below w.heap.size w w' := by
  have HCK := Lib.hid (rcheck_any w va l ha)
  obtain ⟨A, c, rfl, hac, hcm, hA⟩ := ha.one
  cases hc : checkF l
  · rw [hc] at HCK
    simp only [errV, Bool.false_eq_true, if_false] at HCK ⊢
    clear hA ha hok hc
    generalize l.length = n at *
    go_enter Tryz.func15, Tryz.ntmps15
    go_wp2_with fail
    refine HCK.out.mono ?_
    rintro e w1 ⟨rfl, b1⟩
    have B1 := Lib.hid b1; clear b1
    go_wp2_with fail
    go_ret2
    exact ⟨rfl, B1.out⟩
  · rw [hc] at HCK
    simp only [errV, if_true] at HCK ⊢
    have hl := ((check_iff l).1 hc).1
    have hm := check_may hc
    have HA := Lib.hid hA
    have HLN := Lib.hid (fun (k : Nat) (x : En) (Ad : Option Addr) (cd : Nat) (hx : l[k]? = some x) (W : World) (hd : DataAt W (.slice Ad x.dt.length cd) x.dt) => rline_any x Ad cd W hd (hok x (List.mem_of_getElem? hx)) (hm x (List.mem_of_getElem? hx)))
    have HZ := Lib.hid (fun (k : Nat) (x : En) (hx : l[k]? = some x) => line_len2 x (hok x (List.mem_of_getElem? hx)) (hm x (List.mem_of_getElem? hx)))
    have HTL := Lib.hid (fun k => text_len 1000000 l k (fun j x _ hx => HZ.out j x hx))
    have HALL : Hid (textF (l.take l.length) = textF l) := Lib.hid (by rw [List.take_length])
    clear hA ha hc hm hok
    generalize hM : l.length = n at *
    clear hM
    go_enter Tryz.func15, Tryz.ntmps15
    go_wp2_with fail
    refine HCK.out.mono ?_
    rintro e w1 ⟨rfl, b1⟩
    have B1 := Lib.hid b1; clear b1 HCK
    go_wp2_with fail
    go_loopw [5, 6] (fun s i wr => ∃ (k : Nat) (S : ByteArray), k ≤ n ∧ i = .int .i64 k ∧ s = .string S ∧ Hid (S = ⟨(textF (l.take k)).toArray⟩) ∧ Hid (Below w.heap.size w wr)) (fun _ i _ => n - (intOf i).toNat)
    case atStart => exact ⟨0, ⟨#[]⟩, Nat.zero_le _, rfl, rfl, Lib.hid rfl, B1⟩
    case round =>
      obtain ⟨k, S, hk, rfl, rfl, hS, BEL⟩ := hrel
      by_cases hkn : k < n
      · obtain ⟨x, Ad, cd, b, off, hx, rfl, hd, hc⟩ := HA.out k hkn
        obtain ⟨c0, c1, c2, c3, c4, c5, c6⟩ := hc wr BEL.out
        have hkn2 : (k : Int) < n := by omega
        have HL1 := Lib.hid (HLN.out k x Ad cd hx wr (hd.below BEL.out))
        have HSN := Lib.hid (text_snoc l k x hx)
        have hz := HZ.out k x hx
        have ht := HTL.out k
        have hk2 : k * (1000000 + 1) ≤ 20000 * (1000000 + 1) := Nat.mul_le_mul_right _ (by omega)
        have hss : S.size ≤ 20000020000 := by have h3 : S.size = (textF (l.take k)).length := (by rw [hS.out]; exact mk_size _); omega
        have hzl : (⟨(lineL x).toArray⟩ : ByteArray).size ≤ 1000000 := by rw [mk_size]; exact hz
        have HJ : Hid (S ++ ⟨(lineL x).toArray⟩ ++ ⟨#[10]⟩ = (⟨(textF (l.take (k + 1))).toArray⟩ : ByteArray)) := Lib.hid (by
          rw [hS.out, HSN.out]
          apply ByteArray.ext
          simp)
        clear hd hc hx hz ht hk2 HSN
        generalize (⟨(lineL x).toArray⟩ : ByteArray) = ln at *
        go_wp2_with fail
        refine HL1.out.mono ?_
        rintro e w2 ⟨rfl, b2⟩
        have B2 := Lib.hid (BEL.out.trans (b2.mono BEL.out.size))
        clear b2 c0 c1 c2 c3 c4 c5 c6
        go_wp2_with fail
        go_roundw
        case rel => exact ⟨k + 1, _, by omega, by go_num, rfl, Lib.hid HJ.out, B2⟩
        case measure => simp [intOf]; omega
      · have hkn2 : ¬ (k : Int) < n := by omega
        obtain rfl : k = n := by omega
        go_wp2_with fail
        go_ret2
        exact ⟨by rw [hS.out, HALL.out]; rfl, BEL.out⟩
end Go.Proofs.YtbanfkpfijcmcaaGreatDoor
