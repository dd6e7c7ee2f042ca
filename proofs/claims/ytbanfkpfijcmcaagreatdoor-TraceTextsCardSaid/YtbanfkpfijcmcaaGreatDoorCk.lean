/- Check, walked. -/
import Derived.Test.YtbanfkpfijcmcaaGreatDoorMz
import Derived.Test.YtbanfkpfijcmcaaGreatDoorC
import Derived.BigQuiet
namespace Go.Proofs.YtbanfkpfijcmcaaGreatDoor
open Go.RowKit
set_option linter.unusedSimpArgs false
set_option linter.unusedVariables false
set_option maxRecDepth 100000

structure Aft (W : World) where
  val : World
  property : Below W.heap.size W val
theorem quiet_call {W : World} {P : Program} {f : FuncId} {args : Array Value} {v : Value} (n : Aft W) (h : Calls P f args n.val fun e w' => e = .returned v ∧ Below n.val.heap.size n.val w') : Calls P f args n.val fun e w'' => e = .returned v ∧ ∃ m : Aft W, w'' = m.val :=
  h.mono fun _ w' ⟨he, hb⟩ => ⟨he, ⟨w', n.property.trans (hb.mono n.property.size)⟩, rfl⟩
instance (W : World) : Nonempty (Aft W) := ⟨⟨W, Below.refl _ _⟩⟩
theorem wp_region_aft {P : Program} {W : World} {id : Nat} {Q : Exit → Act → World → Prop} {a : Act} {w : World} {l : List Oper} (hm : P.follows .mixedOrders = true) (hB : Region.lexB .any l.toArray = true) (h0 : Below W.heap.size W w)
    (h : wpQuiet P l.toArray (fun w' => ∃ n : Aft W, w' = n.val) (fun a' => ∀ w', (∃ n : Aft W, w' = n.val) → Q .normal a' w') l a) : (Code.region id l.toArray true).wp P Q a w :=
  wp_region_quiet (C := fun w' => ∃ n : Aft W, w' = n.val) hm hB ⟨⟨_, h0.drew⟩, rfl⟩ (by simpa using h)
def errV (b : Bool) : Int := if b then 0 else 250

set_option maxHeartbeats 8000000 in
theorem check_any (w : World) (va : Value) (l : List En) (ha : Rd w va l) (hE : Ev w) (hm : l.length ≤ maxLen) :
    Calls Tryz.prog 6 #[va] w fun e w' => e = .returned (.int .i64 (errV (checkF l))) ∧ Below w.heap.size w w' := by
  obtain ⟨A, c, rfl, hac, hcm, hA⟩ := ha.one
  unfold maxLen at hm
  by_cases hbig : 20000 < l.length
  · have hb2 : (20000 : Int) < l.length := by omega
    have hr : checkF l = false := by unfold checkF; rw [decide_eq_false (by omega)]; rfl
    rw [hr]
    clear hA ha hE hr
    go_enter Tryz.func6, Tryz.ntmps6
    go_wp2_with fail
    go_ret
    exact ⟨rfl, Below.refl _ _⟩
  · have hb2 : ¬ (20000 : Int) < l.length := by omega
    have HA := Lib.hid hA
    have HE := Lib.hid hE
    have HC : Hid (checkF l = allOk l l.length) := Lib.hid (by unfold checkF; rw [decide_eq_true (by omega)]; rfl)
    clear hA ha hE
    generalize hM : l.length = n at *
    have HM := Lib.hid hM; clear hM
    go_enter Tryz.func6, Tryz.ntmps6
    go_wp2_with fail
    go_loopw [10] (fun i wr => ∃ k : Nat, k ≤ n ∧ i = .int .i64 k ∧ Hid (allOk l k = true) ∧ Hid (Below w.heap.size w wr)) (fun i _ => n - (intOf i).toNat)
    case atStart => exact ⟨0, Nat.zero_le _, rfl, Lib.hid rfl, Lib.hid (Below.refl _ _)⟩
    case round =>
      obtain ⟨k, hk, rfl, OK, BEL⟩ := hrel
      by_cases hkn : k < n
      · obtain ⟨x, Ad, cd, b, off, hx, rfl, hd, hc⟩ := HA.out k hkn
        have hc' := hc wr BEL.out
        obtain ⟨c0, c1, c2, c3, c4, c5, c6⟩ := hc'
        have HD := Lib.hid hd
        clear hc hd
        have hkn2 : (k : Int) < n := by omega
        go_upto_region 6 with (fail)
        have sx := new_block wr (.cells #[.int .i64 x.kd, .int .u64 x.tk, .int .i64 x.id, .int .i64 x.fl, .int .i64 x.nn, .int .i64 x.er, .slice Ad x.dt.length cd] 28)
        have B5 := Lib.hid (BEL.out.alloc BEL.out.size (.cells #[.int .i64 x.kd, .int .u64 x.tk, .int .i64 x.id, .int .i64 x.fl, .int .i64 x.nn, .int .i64 x.er, .slice Ad x.dt.length cd] 28))
        generalize wr.alloc (.cells #[.int .i64 x.kd, .int .u64 x.tk, .int .i64 x.id, .int .i64 x.fl, .int .i64 x.nn, .int .i64 x.er, .slice Ad x.dt.length cd] 28) = W5 at *
        generalize wr.heap.size = g at *
        have HS : Hid (∀ (m : Aft W5) (j : Nat), m.val.cell? ⟨g, j, none⟩ = #[Value.int .i64 x.kd, .int .u64 x.tk, .int .i64 x.id, .int .i64 x.fl, .int .i64 x.nn, .int .i64 x.er, .slice Ad x.dt.length cd][j]?) := Lib.hid (fun m j => (cell_of ((m.property.block g (lt_of_block sx)).trans sx) j).1)
        have z0 := fun m : Aft W5 => HS.out m 0
        have z1 := fun m : Aft W5 => HS.out m 1
        have z2 := fun m : Aft W5 => HS.out m 2
        have z3 := fun m : Aft W5 => HS.out m 3
        have z4 := fun m : Aft W5 => HS.out m 4
        have z5 := fun m : Aft W5 => HS.out m 5
        have z6 := fun m : Aft W5 => HS.out m 6
        simp only [List.getElem?_toArray, List.getElem?_cons_succ, List.getElem?_cons_zero] at z0 z1 z2 z3 z4 z5 z6
        have HMY := Lib.hid (fun X (hX : Below W5.heap.size W5 X) => may_any x (.slice Ad x.dt.length cd) X (HE.out.below (B5.out.trans (hX.mono B5.out.size))) (HD.out.below (B5.out.trans (hX.mono B5.out.size))))
        clear sx c0 c1 c2 c3 c4 c5 c6
        have HSUC := Lib.hid (allOk_succ l k)
        have HNO := Lib.hid (allOk_no l k n hkn)
        have HOK : Hid (okAt l k = (mayF x && (k == 0 || (match l[k - 1]? with | none => true | some p => decide (p.tk ≤ x.tk))))) := Lib.hid (by unfold okAt; rw [hx]; rfl)
        generalize mayF x = m at HMY HOK
        generalize x.kd = xkd at *
        generalize x.id = xid at *
        generalize x.fl = xfl at *
        generalize x.nn = xnn at *
        generalize x.er = xer at *
        cases m
        · have HN : Hid (checkF l = false) := Lib.hid (by rw [HC.out]; exact HNO.out (by rw [HOK.out]; rfl))
          clear HOK HNO HSUC hx
          refine wp_region_aft (by kernel_rfl) (by kernel_rfl) (Below.refl _ W5) ?_
          repeat (any_goals (first | go_big_quiet_step ((go_at_call 20; exact quiet_call _ (HMY.out _ (Aft.property _)))) | quiet_step ((go_at_call 20; exact quiet_call _ (HMY.out _ (Aft.property _))))))
          refine wpQuiet_nil ?_
          intro _ hw'
          obtain ⟨⟨u1, b1⟩, hw''⟩ := hw'
          subst hw''
          have C1 := Lib.hid (B5.out.trans (b1.mono B5.out.size))
          clear b1 z0 z1 z2 z3 z4 z5 z6
          go_wp2_with fail
          go_ret
          exact ⟨by rw [HN.out]; rfl, C1.out⟩
        · by_cases hk0 : k = 0
          · subst hk0
            have HK : Hid (allOk l 1 = true) := Lib.hid (by rw [HSUC.out, OK.out, HOK.out]; rfl)
            clear HOK HNO HSUC hx
            refine wp_region_aft (by kernel_rfl) (by kernel_rfl) (Below.refl _ W5) ?_
            repeat (any_goals (first | go_big_quiet_step ((go_at_call 20; exact quiet_call _ (HMY.out _ (Aft.property _)))) | quiet_step ((go_at_call 20; exact quiet_call _ (HMY.out _ (Aft.property _))))))
            refine wpQuiet_nil ?_
            intro _ hw'
            obtain ⟨⟨u1, b1⟩, hw''⟩ := hw'
            subst hw''
            have C1 := Lib.hid (B5.out.trans (b1.mono B5.out.size))
            clear b1 z0 z1 z2 z3 z4 z5 z6
            go_wp2_with fail
            go_roundw
            case rel => exact ⟨1, by omega, by go_num, HK, C1⟩
            case measure => simp [intOf]; omega
          · obtain ⟨j, rfl⟩ : ∃ j, k = j + 1 := ⟨k - 1, by omega⟩
            obtain ⟨p, Ap, cp, b', off', hp, hA', hdp, hcp⟩ := HA.out j (by omega)
            cases hA'
            have y1 := fun m : Aft W5 => (hcp m.val (B5.out.trans (m.property.mono B5.out.size))).2.1
            have hj : IntKind.i64.wrap (j : Int) = (j : Int) := IntWalk.i64_in _ (by omega)
            have hj0 : (0 : Int) < (j : Int) + 1 := by omega
            rw [show j + 1 - 1 = j from rfl, hp] at HOK
            simp only at HOK
            clear hcp hdp hp hx
            generalize p.tk = ptk at *
            generalize x.tk = xtk at *
            by_cases hle : ptk ≤ xtk
            · have HK : Hid (allOk l (j + 1 + 1) = true) := Lib.hid (by rw [HSUC.out, OK.out, HOK.out, decide_eq_true hle]; simp)
              have hlt : ¬ xtk < ptk := by omega
              clear HOK HNO HSUC
              refine wp_region_aft (by kernel_rfl) (by kernel_rfl) (Below.refl _ W5) ?_
              repeat (any_goals (first | go_big_quiet_step ((go_at_call 20; exact quiet_call _ (HMY.out _ (Aft.property _)))) | quiet_step ((go_at_call 20; exact quiet_call _ (HMY.out _ (Aft.property _))))))
              refine wpQuiet_nil ?_
              intro _ hw'
              obtain ⟨⟨u1, b1⟩, hw''⟩ := hw'
              subst hw''
              have C1 := Lib.hid (B5.out.trans (b1.mono B5.out.size))
              clear b1 z0 z1 z2 z3 z4 z5 z6
              go_wp2_with fail
              go_roundw
              case rel => exact ⟨j + 1 + 1, by omega, by go_num, HK, C1⟩
              case measure => simp [intOf]; omega
            · have HN : Hid (checkF l = false) := Lib.hid (by rw [HC.out]; exact HNO.out (by rw [HOK.out, decide_eq_false hle]; simp))
              have hlt : xtk < ptk := by omega
              clear HOK HNO HSUC
              refine wp_region_aft (by kernel_rfl) (by kernel_rfl) (Below.refl _ W5) ?_
              repeat (any_goals (first | go_big_quiet_step ((go_at_call 20; exact quiet_call _ (HMY.out _ (Aft.property _)))) | quiet_step ((go_at_call 20; exact quiet_call _ (HMY.out _ (Aft.property _))))))
              refine wpQuiet_nil ?_
              intro _ hw'
              obtain ⟨⟨u1, b1⟩, hw''⟩ := hw'
              subst hw''
              have C1 := Lib.hid (B5.out.trans (b1.mono B5.out.size))
              clear b1 z0 z1 z2 z3 z4 z5 z6
              go_wp2_with fail
              go_ret
              exact ⟨by rw [HN.out]; rfl, C1.out⟩
      · obtain rfl : k = n := by omega
        have HY : Hid (checkF l = true) := Lib.hid (by rw [HC.out, OK.out])
        go_wp2_with fail
        go_ret
        exact ⟨by rw [HY.out]; rfl, BEL.out⟩
end Go.Proofs.YtbanfkpfijcmcaaGreatDoor
