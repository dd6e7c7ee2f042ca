/- The reference's Text, walked. -/
import Derived.Test.YtljfnfaljadjdaaDoorTd
namespace Go.Proofs.YtljfnfaljadjdaaDoor
open Go.RowKit
set_option linter.unusedSimpArgs false
set_option linter.unusedVariables false
set_option maxRecDepth 100000

theorem dig_size (n : Nat) (h : n < 64) : (digB n).size ≤ 2 := by
  have := dig_len n (by omega)
  have e1 : (digB n).size = (Lib.decDigits n).length := by simp [digB, ByteArray.size]
  omega
/-- What a round writes. -/
theorem tail_a {J s : ByteArray} {x y : Nat} {i : Nat} (h : J.data.toList = if i = 0 then (runS x y).data.toList else s.data.toList ++ (44 :: (runS x y).data.toList)) (hs : i = 0 → s = ⟨#[]⟩) :
    (i = 0 → ¬ x < y → s ++ digB x = J) ∧ (i = 0 → x < y → s ++ digB x ++ ⟨#[45]⟩ ++ digB y = J) ∧ (i ≠ 0 → ¬ x < y → s ++ ⟨#[44]⟩ ++ digB x = J) ∧ (i ≠ 0 → x < y → s ++ ⟨#[44]⟩ ++ digB x ++ ⟨#[45]⟩ ++ digB y = J) := by
  refine ⟨fun h1 h2 => ?_, fun h1 h2 => ?_, fun h1 h2 => ?_, fun h1 h2 => ?_⟩
  all_goals
    refine WideShapes.bytes_inj ?_
    rw [h]
    unfold runS
    simp only [h1, h2, if_true, if_false, ByteArray.data_append, Array.toList_append]
    try rw [hs h1]
    simp
theorem JS_nil (a b i pos : Nat) (h : Pos a b i pos) (hi : i = 0) : JS a b pos = ⟨#[]⟩ := by
  unfold JS
  rw [h.emp.2 hi]
  rfl

set_option maxHeartbeats 4000000 in
theorem rtext_some (a b : Nat) (A : Option Addr) (c : Nat) (w : World) (hz : Ints .i64 w A (L a b)) (hc : (L a b).length ≤ c) (hq : (L a b).length ≠ 0) :
    Calls Tryd.prog 26 #[.slice A (L a b).length c] w fun e w' => e = .returned (.string (JS a b 64)) ∧ Below w.heap.size w w' := by
  have HZ := Lib.hid hz; clear hz
  have HN := Lib.hid (fun i pos (h : Pos a b i pos) hi => h.next hi)
  have HV := Lib.hid (fun x i k y (h : InR a b x i k y) => h.val)
  have HS := Lib.hid (fun x i k y (h : InR a b x i k y) hk he => h.step hk he)
  have HT := Lib.hid (fun x i k y pos (h : InR a b x i k y) P hS hb he => h.stop (pos := pos) P hS hb he)
  have HD := Lib.hid (fun i pos (h : Pos a b i pos) hi => h.done hi)
  have hl := L_len a b
  generalize L a b = l at *
  generalize hJ : JS a b 64 = J64 at *
  clear hJ
  have hq0 : ((l.length : Int) == 0) = false := beq_eq_false_iff_ne.2 (by omega)
  go_enter Tryd.func26, Tryd.ntmps26
  go_wp2_with fail
  go_loopw [3, 4] (fun s i wr => ∃ k pos : Nat, Pos a b k pos ∧ k ≤ l.length ∧ i = .int .i64 k ∧ s = .string (JS a b pos) ∧ Below w.heap.size w wr) (fun _ i _ => l.length - (intOf i).toNat)
  case atStart => exact ⟨0, 0, Pos.start a b, Nat.zero_le _, rfl, rfl, Below.refl _ _⟩
  case round =>
    obtain ⟨k, pos, P, hk, rfl, rfl, bel⟩ := hrel
    have BEL := Lib.hid bel; clear bel
    have HP := Lib.hid P; clear P
    by_cases hlt : k < l.length
    · obtain ⟨x, hx, hgx, hhx, hbx, hjs, hsk, hlen⟩ := HN.out k pos HP.out hlt
      have R0 := Lib.hid (InR.start hx hhx hlen)
      have HB := Lib.hid hbx
      have HK := Lib.hid hsk
      clear hhx hbx hjs hsk hlen
      have hJ0 := JS_size a b pos HP.out.le
      have HJN := Lib.hid (JS_nil a b k pos HP.out)
      go_wp2_with fail
      go_loopw [5] (fun j wr2 => ∃ m y : Nat, InR a b x k m y ∧ j = .int .i64 m ∧ Below w.heap.size w wr2) (fun j _ => l.length - (intOf j).toNat)
      case atStart => exact ⟨k, x, R0.out, rfl, BEL.out⟩
      case round =>
        obtain ⟨m, y, R, rfl, bel2⟩ := hrel
        obtain ⟨hm, hgy⟩ := HV.out x k m y R
        have hy := R.lt
        have hxy := R.le
        have HMK := Lib.hid R.k
        have HDX := Lib.hid (fun W => digits_any x W hx)
        have HDY := Lib.hid (fun W => digits_any y W hy)
        have zx := dig_size x hx
        have zy := dig_size y hy
        have wm : IntKind.i64.wrap ((m : Int) + 1) = (m : Int) + 1 := IntWalk.i64_in _ (by omega)
        have wy : IntKind.i64.wrap ((y : Int) + 1) = (y : Int) + 1 := IntWalk.i64_in _ (by omega)
        have tm : ((m : Int) + 1).toNat = m + 1 := by omega
        have HR := Lib.hid R; clear R
        obtain ⟨g, off, rfl, hg, hcc⟩ := (Ints.below HZ.out bel2) (by omega)
        have B2 := Lib.hid bel2; clear bel2
        have ck := hcc m hm
        rw [hgy] at ck
        have ckk := hcc k hlt
        rw [hgx] at ckk
        by_cases hm1 : m + 1 < l.length
        · have ck1 := hcc (m + 1) hm1
          have HST := Lib.hid (fun he => HS.out x k m y HR.out hm1 he)
          have HTT := Lib.hid (fun he => HT.out x k m y pos HR.out HP.out HK.out HB.out (fun _ => he))
          rw [hgy] at HST HTT
          generalize l.getD (m + 1) 0 = z at ck1 HST HTT
          clear hcc
          have hm2 : (m : Int) + 1 < l.length := by omega
          by_cases he : z = (y : Int) + 1
          · have HR2 := Lib.hid (HST.out he)
            subst he
            go_wp2_with fail
            go_quiet (fail)
            go_wp2_with fail
            go_roundw
            case rel => exact ⟨m + 1, y + 1, HR2.out, by go_num, B2.out.trans ((below_drewN _ _).mono B2.out.size)⟩
            case measure => simp [intOf]; omega
          · obtain ⟨hP, hD⟩ := HTT.out he
            have HP2 := Lib.hid hP
            have HJ := Lib.hid (tail_a hD HJN.out)
            have he2 : (z == (y : Int) + 1) = false := beq_eq_false_iff_ne.2 he
            clear HTT HST hP hD HJN
            rcases Nat.eq_zero_or_pos k with hk0 | hk0
            · have HJ1 := Lib.hid (HJ.out.1 hk0)
              have HJ2 := Lib.hid (HJ.out.2.1 hk0)
              have hg0 : ¬ (0 < k) := by omega
              have HK0 := Lib.hid hk0; clear hk0
              by_cases hxy2 : x < y
              · have HJ3 := Lib.hid (HJ2.out hxy2)
                have hkm : (k : Int) < m := by have := HMK.out; omega
                generalize JS a b pos = s at *
                generalize digB x = dx at *
                generalize digB y = dy at *
                go_wp2_with fail
                go_quiet (fail)
                go_wp2_with fail
                refine (HDX.out _).mono ?_
                rintro e w1 ⟨rfl, b1⟩
                have B3 := Lib.hid ((B2.out.trans ((below_drewN wr nq).mono B2.out.size)).trans (b1.mono (by have := B2.out.size; simpa using this)))
                obtain ⟨g2, off2, hA, hg2, hcc2⟩ := (Ints.below HZ.out B3.out) (by omega)
                cases hA
                have ckw := hcc2 m hm
                rw [hgy] at ckw
                clear hcc2 hg2 b1
                go_wp2_with fail
                refine (HDY.out _).mono ?_
                rintro e w2 ⟨rfl, b2⟩
                have B4 := Lib.hid (B3.out.trans (b2.mono B3.out.size))
                clear b2
                go_wp2_with fail
                go_roundw
                case rel => exact ⟨m + 1, y + 1, HP2.out, by omega, by go_num, by rw [← HJ3.out], B4.out⟩
                case measure => simp [intOf]; omega
              · have HJ3 := Lib.hid (HJ1.out hxy2)
                have hkm : ¬ (k : Int) < m := by have := HMK.out; omega
                generalize JS a b pos = s at *
                generalize digB x = dx at *
                generalize digB y = dy at *
                go_wp2_with fail
                go_quiet (fail)
                go_wp2_with fail
                refine (HDX.out _).mono ?_
                rintro e w1 ⟨rfl, b1⟩
                have B3 := Lib.hid ((B2.out.trans ((below_drewN wr nq).mono B2.out.size)).trans (b1.mono (by have := B2.out.size; simpa using this)))
                clear b1
                go_wp2_with fail
                go_roundw
                case rel => exact ⟨m + 1, y + 1, HP2.out, by omega, by go_num, by rw [← HJ3.out], B3.out⟩
                case measure => have := HMK.out; simp [intOf]; omega
            · have HJ1 := Lib.hid (HJ.out.2.2.1 (by omega))
              have HJ2 := Lib.hid (HJ.out.2.2.2 (by omega))
              by_cases hxy2 : x < y
              · have HJ3 := Lib.hid (HJ2.out hxy2)
                have hkm : (k : Int) < m := by have := HMK.out; omega
                generalize JS a b pos = s at *
                generalize digB x = dx at *
                generalize digB y = dy at *
                go_wp2_with fail
                go_quiet (fail)
                go_wp2_with fail
                refine (HDX.out _).mono ?_
                rintro e w1 ⟨rfl, b1⟩
                have B3 := Lib.hid ((B2.out.trans ((below_drewN wr nq).mono B2.out.size)).trans (b1.mono (by have := B2.out.size; simpa using this)))
                obtain ⟨g2, off2, hA, hg2, hcc2⟩ := (Ints.below HZ.out B3.out) (by omega)
                cases hA
                have ckw := hcc2 m hm
                rw [hgy] at ckw
                clear hcc2 hg2 b1
                go_wp2_with fail
                refine (HDY.out _).mono ?_
                rintro e w2 ⟨rfl, b2⟩
                have B4 := Lib.hid (B3.out.trans (b2.mono B3.out.size))
                clear b2
                go_wp2_with fail
                go_roundw
                case rel => exact ⟨m + 1, y + 1, HP2.out, by omega, by go_num, by rw [← HJ3.out], B4.out⟩
                case measure => simp [intOf]; omega
              · have HJ3 := Lib.hid (HJ1.out hxy2)
                have hkm : ¬ (k : Int) < m := by have := HMK.out; omega
                generalize JS a b pos = s at *
                generalize digB x = dx at *
                generalize digB y = dy at *
                go_wp2_with fail
                go_quiet (fail)
                go_wp2_with fail
                refine (HDX.out _).mono ?_
                rintro e w1 ⟨rfl, b1⟩
                have B3 := Lib.hid ((B2.out.trans ((below_drewN wr nq).mono B2.out.size)).trans (b1.mono (by have := B2.out.size; simpa using this)))
                clear b1
                go_wp2_with fail
                go_roundw
                case rel => exact ⟨m + 1, y + 1, HP2.out, by omega, by go_num, by rw [← HJ3.out], B3.out⟩
                case measure => have := HMK.out; simp [intOf]; omega
        · obtain ⟨hP, hD⟩ := HT.out x k m y pos HR.out HP.out HK.out HB.out (fun h => absurd h hm1)
          have HP2 := Lib.hid hP
          have HJ := Lib.hid (tail_a hD HJN.out)
          clear hcc hP hD HJN
          have hm2 : decide ((m : Int) + 1 < (l.length : Int)) = false := decide_eq_false (by omega)
          rcases Nat.eq_zero_or_pos k with hk0 | hk0
          · have HJ1 := Lib.hid (HJ.out.1 hk0)
            have HJ2 := Lib.hid (HJ.out.2.1 hk0)
            have hg0 : ¬ (0 < k) := by omega
            have HK0 := Lib.hid hk0; clear hk0
            by_cases hxy2 : x < y
            · have HJ3 := Lib.hid (HJ2.out hxy2)
              have hkm : (k : Int) < m := by have := HMK.out; omega
              generalize JS a b pos = s at *
              generalize digB x = dx at *
              generalize digB y = dy at *
              go_wp2_with fail
              go_quiet (fail)
              go_wp2_with fail
              refine (HDX.out _).mono ?_
              rintro e w1 ⟨rfl, b1⟩
              have B3 := Lib.hid ((B2.out.trans ((below_drewN wr nq).mono B2.out.size)).trans (b1.mono (by have := B2.out.size; simpa using this)))
              obtain ⟨g2, off2, hA, hg2, hcc2⟩ := (Ints.below HZ.out B3.out) (by omega)
              cases hA
              have ckw := hcc2 m hm
              rw [hgy] at ckw
              clear hcc2 hg2 b1
              go_wp2_with fail
              refine (HDY.out _).mono ?_
              rintro e w2 ⟨rfl, b2⟩
              have B4 := Lib.hid (B3.out.trans (b2.mono B3.out.size))
              clear b2
              go_wp2_with fail
              go_roundw
              case rel => exact ⟨m + 1, y + 1, HP2.out, by omega, by go_num, by rw [← HJ3.out], B4.out⟩
              case measure => simp [intOf]; omega
            · have HJ3 := Lib.hid (HJ1.out hxy2)
              have hkm : ¬ (k : Int) < m := by have := HMK.out; omega
              generalize JS a b pos = s at *
              generalize digB x = dx at *
              generalize digB y = dy at *
              go_wp2_with fail
              go_quiet (fail)
              go_wp2_with fail
              refine (HDX.out _).mono ?_
              rintro e w1 ⟨rfl, b1⟩
              have B3 := Lib.hid ((B2.out.trans ((below_drewN wr nq).mono B2.out.size)).trans (b1.mono (by have := B2.out.size; simpa using this)))
              clear b1
              go_wp2_with fail
              go_roundw
              case rel => exact ⟨m + 1, y + 1, HP2.out, by omega, by go_num, by rw [← HJ3.out], B3.out⟩
              case measure => have := HMK.out; simp [intOf]; omega
          · have HJ1 := Lib.hid (HJ.out.2.2.1 (by omega))
            have HJ2 := Lib.hid (HJ.out.2.2.2 (by omega))
            by_cases hxy2 : x < y
            · have HJ3 := Lib.hid (HJ2.out hxy2)
              have hkm : (k : Int) < m := by have := HMK.out; omega
              generalize JS a b pos = s at *
              generalize digB x = dx at *
              generalize digB y = dy at *
              go_wp2_with fail
              go_quiet (fail)
              go_wp2_with fail
              refine (HDX.out _).mono ?_
              rintro e w1 ⟨rfl, b1⟩
              have B3 := Lib.hid ((B2.out.trans ((below_drewN wr nq).mono B2.out.size)).trans (b1.mono (by have := B2.out.size; simpa using this)))
              obtain ⟨g2, off2, hA, hg2, hcc2⟩ := (Ints.below HZ.out B3.out) (by omega)
              cases hA
              have ckw := hcc2 m hm
              rw [hgy] at ckw
              clear hcc2 hg2 b1
              go_wp2_with fail
              refine (HDY.out _).mono ?_
              rintro e w2 ⟨rfl, b2⟩
              have B4 := Lib.hid (B3.out.trans (b2.mono B3.out.size))
              clear b2
              go_wp2_with fail
              go_roundw
              case rel => exact ⟨m + 1, y + 1, HP2.out, by omega, by go_num, by rw [← HJ3.out], B4.out⟩
              case measure => simp [intOf]; omega
            · have HJ3 := Lib.hid (HJ1.out hxy2)
              have hkm : ¬ (k : Int) < m := by have := HMK.out; omega
              generalize JS a b pos = s at *
              generalize digB x = dx at *
              generalize digB y = dy at *
              go_wp2_with fail
              go_quiet (fail)
              go_wp2_with fail
              refine (HDX.out _).mono ?_
              rintro e w1 ⟨rfl, b1⟩
              have B3 := Lib.hid ((B2.out.trans ((below_drewN wr nq).mono B2.out.size)).trans (b1.mono (by have := B2.out.size; simpa using this)))
              clear b1
              go_wp2_with fail
              go_roundw
              case rel => exact ⟨m + 1, y + 1, HP2.out, by omega, by go_num, by rw [← HJ3.out], B3.out⟩
              case measure => have := HMK.out; simp [intOf]; omega
    · have HE := Lib.hid (HD.out k pos HP.out (by omega))
      generalize JS a b pos = s at *
      go_wp2_with fail
      go_ret
      exact ⟨by rw [← HE.out]; rfl, BEL.out⟩
set_option maxHeartbeats 1000000 in
theorem rtext_none (A : Option Addr) (c : Nat) (w : World) : Calls Tryd.prog 26 #[.slice A 0 c] w fun e w' => e = .returned (.string ⟨#[110, 111, 110, 101]⟩) ∧ Below w.heap.size w w' := by
  go_enter Tryd.func26, Tryd.ntmps26
  go_wp2_with fail
  go_ret
  exact ⟨rfl, Below.refl _ _⟩
theorem rtext_any (a b : Nat) (A : Option Addr) (c : Nat) (w : World) (ha : a < 4294967296) (hb : b < 4294967296) (hz : Ints .i64 w A (L a b)) (hc : (L a b).length ≤ c) :
    Calls Tryd.prog 26 #[.slice A (L a b).length c] w fun e w' => e = .returned (.string ⟨(textL a b).toArray⟩) ∧ Below w.heap.size w w' := by
  by_cases hq : (L a b).length = 0
  · obtain ⟨rfl, rfl⟩ := L_nil a b ha hb hq
    rw [hq]
    exact rtext_none A c w
  · rw [textL_JS a b ha hb hq]
    exact rtext_some a b A c w hz hc hq
end Go.Proofs.YtljfnfaljadjdaaDoor
