/- The law of looks between. -/
import Derived.Test.YtgnamdncoidcnaaF
namespace Go.Proofs.Ytgnamdncoidcnaa
open Go.RowKit
set_option linter.unusedSimpArgs false
set_option linter.unusedVariables false

theorem Ints.below {kd : IntKind} {w w' : World} {a : Option Addr} {zs : List Int} (h : Ints kd w a zs) (hb : Below w.heap.size w w') : Ints kd w' a zs := by
  intro h0
  obtain ⟨b, off, e, hlt, hc⟩ := h h0
  exact ⟨b, off, e, Nat.lt_of_lt_of_le hlt hb.size, fun i hi => (hb.cell (p := ⟨b, off + i, none⟩) hlt).trans (hc i hi)⟩

theorem lazy (M E B h t u : Int) (r : Rated M E B) (hB : h ≤ B) (t0 : 0 ≤ t) (tu : t ≤ u) : cH M E B (cH M E B h 0 t) (cC E 0 t) u = cH M E B h 0 u ∧ cC E (cC E 0 t) u = cC E 0 u := by
  obtain ⟨m1, m2, e1, e2, b1, b2⟩ := r
  have TE : t / E * E ≤ t := Int.ediv_mul_le _ (by omega)
  have hv := cH_zero M E B h t e1 t0 hB
  have vB : cH M E B h 0 t ≤ B := by rw [hv]; split <;> omega
  rw [cC_zero E t e1 t0, cC_zero E u e1 (by omega), cC_mult E _ (t / E) u e1 rfl (by omega), cH_mult M E B _ _ (t / E) u e1 rfl (by omega) vB, cH_zero M E B h u e1 (by omega) hB, hv]
  have hT : t / E ≤ u / E := Int.ediv_le_ediv (by omega) tu
  have T0 : 0 ≤ t / E := Int.ediv_nonneg t0 (by omega)
  have hm : 0 ≤ (u / E - t / E) * M := Int.mul_nonneg (by omega) (by omega)
  refine ⟨?_, rfl⟩
  rw [Int.sub_mul] at *
  split <;> split <;> (try split) <;> omega

theorem take_parts (B n : Int) (B1 : 1 ≤ B) : tk B n = tk B (n.tdiv 2) + tk (B - tk B (n.tdiv 2)) (n - n.tdiv 2) ∧ 0 ≤ tk B (n.tdiv 2) ∧ 0 ≤ tk (B - tk B (n.tdiv 2)) (n - n.tdiv 2) ∧ 0 ≤ tk B n ∧ tk B n ≤ B ∧ tk B (n.tdiv 2) ≤ B := by
  by_cases hn : 0 ≤ n
  · have h2 : n.tdiv 2 = n / 2 := Int.tdiv_eq_ediv_of_nonneg hn
    rw [h2]
    unfold tk; repeat' split
    all_goals omega
  · have h2 : n.tdiv 2 ≤ 0 ∧ n - n.tdiv 2 ≤ 0 := by
      have : n.tdiv 2 = -((-n) / 2) := by rw [← Int.tdiv_eq_ediv_of_nonneg (show 0 ≤ -n by omega), Int.neg_tdiv]; omega
      rw [this]; omega
    generalize n.tdiv 2 = y at *
    unfold tk; repeat' split
    all_goals omega

set_option maxHeartbeats 4000000 in
set_option maxRecDepth 100000 in
theorem lazy_walk (M E B : Int) (ad : Option Addr) (cap : Nat) (zs : List Int) (n : Int) (w : World) (w6 : (Lit.int .i64 n).wf = true)
    (hz : Ints .u32 w ad zs) (hm : zs.length ≤ 9223372036854775807) (hwf : ∀ n ∈ zs, (Lit.int .u32 n).wf = true) :
    Calls Try.prog 5 #[.agg #[.int .i64 M, .int .u64 E, .int .i64 B], .slice ad zs.length cap, .int .i64 n] w fun e w' => e = .returned (.bool true) ∧ Below w.heap.size w w' := by
  obtain ⟨n0, n1⟩ := bd_i64 w6
  clear w6
  have HZ := Lib.hid hz; clear hz
  have HF := Lib.hid hwf; clear hwf
  have HA := Lib.hid (Rt.new w M E B)
  by_cases hl : zs.length ≤ 60
  · have hl2 : decide (60 < zs.length) = false := by simp; omega
    have hl3 : decide ((60 : Int) < (zs.length : Int)) = false := by simp; omega
    by_cases r : Rated M E B
    · have R := Lib.hid r; clear r
      have fx : ∀ h c, -2147483647 ≤ h → h ≤ B → 0 ≤ c → c ≤ 18446744073709551615 → Fits M E B h c := fun h c p1 p2 p3 p4 => R.out.fits h c p1 p2 p3 p4
      have FX := Lib.hid fx; clear fx
      have BB := Lib.hid (show 1 ≤ B ∧ B ≤ 2147483647 by have := R.out; unfold Rated at this; omega)
      obtain ⟨B1, B2⟩ := BB.out
      obtain ⟨tp, y0, y1, x0, x1, y2⟩ := take_parts B n B1
      have E1 := Lib.hid (show ∀ h, cH M E B h 0 0 = h ∧ cC E 0 0 = 0 by intro h; unfold cH cC; simp)
      generalize hx : tk B n = x at *
      generalize hy : tk B (n.tdiv 2) = y at *
      generalize hy' : tk (B - y) (n - n.tdiv 2) = y' at *
      have HX := Lib.hid hx; have HY := Lib.hid hy; have HY' := Lib.hid hy'; have TP := Lib.hid tp
      have ty1 : y + y' ≤ B := by omega
      have td : -9223372036854775808 ≤ n.tdiv 2 ∧ n.tdiv 2 ≤ 9223372036854775807 ∧ -9223372036854775808 ≤ n - n.tdiv 2 ∧ n - n.tdiv 2 ≤ 9223372036854775807 := by
        by_cases hn : 0 ≤ n
        · have h2 : n.tdiv 2 = n / 2 := Int.tdiv_eq_ediv_of_nonneg hn
          rw [h2]; omega
        · have : n.tdiv 2 = -((-n) / 2) := by rw [← Int.tdiv_eq_ediv_of_nonneg (show 0 ≤ -n by omega), Int.neg_tdiv]; omega
          rw [this]; omega
      clear hx hy hy' tp
      obtain ⟨td1, td2, td3, td4⟩ := td
      have e1 : B - y - y' = B - x := by have := TP.out; omega
      have EE := Lib.hid e1; clear e1
      go_enter Try.func5, Try.ntmps5
      go_wp2_with fail
      refine (alive_any _).mono ?_
      rintro e w1 ⟨rfl, hb⟩
      have r1 := HA.out.below hb (by simp)
      have HB := Lib.hid hb; clear hb
      have R1 := Lib.hid r1
      obtain ⟨c0, c1, c2⟩ := r1.cells
      clear r1
      go_wp2_with fail
      refine (new_yes M E B 0 _ R.out).mono ?_
      rintro e w2 ⟨ga, rfl, hga, ka, hb2⟩
      have r2 := R1.out.below hb2 (by have := lt_of_block R1.out; omega)
      have HB2 := Lib.hid hb2; have KA := Lib.hid ka; clear hb2 ka
      clear c0 c1 c2
      obtain ⟨c0, c1, c2⟩ := r2.cells
      clear r2
      go_wp2_with fail
      refine (new_yes M E B 0 _ R.out).mono ?_
      rintro e w3 ⟨gb, rfl, hgb, kb, hb3⟩
      have T3 := Two.start HB.out hga KA.out HB2.out hgb kb hb3
      clear hb3 kb c0 c1 c2 HB HB2 KA R1 hga hgb
      go_wp2_with fail
      refine (take_any ga M E B B 0 0 n _ T3.a (FX.out _ _ (by omega) (by omega) (by omega) (by omega)) (by omega) (by omega)).mono ?_
      rintro e w4 ⟨he, k, hg⟩
      rw [(E1.out B).1, HX.out] at he k; rw [(E1.out B).2] at k; subst he
      have T4 := T3.onA k hg
      clear k hg T3
      go_wp2_with fail
      refine (take_any gb M E B B 0 0 (n.tdiv 2) _ T4.b (FX.out _ _ (by omega) (by omega) (by omega) (by omega)) (by omega) (by omega)).mono ?_
      rintro e w5 ⟨he, k, hg⟩
      rw [(E1.out B).1, HY.out] at he k; rw [(E1.out B).2] at k; subst he
      have T5 := T4.onB k hg
      clear k hg T4
      go_wp2_with fail
      refine (take_any gb M E B (B - y) 0 0 (n - n.tdiv 2) _ T5.b (FX.out _ _ (by omega) (by omega) (by omega) (by omega)) (by omega) (by omega)).mono ?_
      rintro e w6 ⟨he, k, hg⟩
      rw [(E1.out (B - y)).1, HY'.out] at he k; rw [(E1.out B).2, EE.out] at k; subst he
      have T6 := T5.onB k hg
      clear k hg T5
      go_wp2_with fail
      go_loopw [14, 15] (fun nw i wr => ∃ (k : Nat) (t : Int), k ≤ zs.length ∧ i = .int .i64 k ∧ nw = .int .u64 t ∧ 0 ≤ t ∧ t ≤ 1048576 * k ∧ Two w wr w.heap.size ga gb M E B (cH M E B (B - x) 0 t) (cC E 0 t) (B - x) 0) (fun _ i _ => zs.length - (intOf i).toNat)
      case atStart => exact ⟨0, 0, Nat.zero_le _, rfl, rfl, by omega, by omega, by rw [(E1.out (B - x)).1, (E1.out B).2]; exact T6⟩
      case round =>
        obtain ⟨k, t, hk, rfl, rfl, t0, t1, T⟩ := hrel
        have t2 : t ≤ 62914560 := by omega
        have HT1 := Lib.hid t1
        clear t1
        have fb := cH_bd M E B (B - x) 0 t (FX.out _ _ (by omega) (by omega) (by omega) (by omega)) (by omega)
        have FB := Lib.hid (show -2147483647 ≤ cH M E B (B - x) 0 t ∧ cH M E B (B - x) 0 t ≤ B ∧ 0 ≤ cC E 0 t ∧ cC E 0 t ≤ 18446744073709551615 by omega)
        clear fb
        by_cases hlt : k < zs.length
        · obtain ⟨b, off, rfl, hb, hc⟩ := (HZ.out.below T.bel) (by omega)
          have hck := hc k hlt
          clear hc
          obtain ⟨z0, z1⟩ := bd_u32 (HF.out zs[k] (List.getElem_mem hlt))
          have LZ := Lib.hid (lazy M E B (B - x) t (t + zs[k] % 1048576) R.out (by omega) t0 (by omega))
          have AG := Lib.hid (again M E B 0 (t + zs[k] % 1048576) R.out.2.2.1)
          have fb := cH_bd M E B (B - x) 0 (t + zs[k] % 1048576) (FX.out _ _ (by omega) (by omega) (by omega) (by omega)) (by omega)
          have FB2 := Lib.hid (show -2147483647 ≤ cH M E B (B - x) 0 (t + zs[k] % 1048576) ∧ cH M E B (B - x) 0 (t + zs[k] % 1048576) ≤ B ∧ 0 ≤ cC E 0 (t + zs[k] % 1048576) ∧ cC E 0 (t + zs[k] % 1048576) ≤ 18446744073709551615 by omega)
          clear fb
          go_wp2_with fail
          refine (have_any ga M E B _ _ (t + zs[k] % 1048576) _ T.a (FX.out _ _ FB.out.1 FB.out.2.1 FB.out.2.2.1 FB.out.2.2.2) (by omega) (by omega)).mono ?_
          rintro e w7 ⟨rfl, k7, hg⟩
          have T7 := T.onA k7 hg
          rw [LZ.out.1, LZ.out.2] at T7
          clear k7 hg T
          go_wp2_with fail
          refine (when_any ga M E B _ _ (t + zs[k] % 1048576) 1 _ T7.a (FX.out _ _ FB2.out.1 FB2.out.2.1 FB2.out.2.2.1 FB2.out.2.2.2) (by omega) (by omega)).mono ?_
          rintro e w8 ⟨rfl, k8, hg⟩
          have T8 := T7.onA k8 hg
          rw [AG.out.1 _ FB2.out.2.1, AG.out.2] at T8
          clear k8 hg T7
          go_wp2_with fail
          go_roundw
          case rel => exact ⟨k + 1, t + zs[k] % 1048576, by omega, by go_num, rfl, by omega, by have := HT1.out; omega, T8⟩
          case measure => simp [intOf]; omega
        · have AG := Lib.hid (again M E B 0 t R.out.2.2.1)
          have hxy : x = y + y' := TP.out
          have b1 : (x == y + y') = true := by simp [hxy]
          have b2 : (x != y + y') = false := by simp [hxy]
          clear hxy
          by_cases hn0 : n < 0
          all_goals
            go_wp2_with fail
            refine (have_any ga M E B _ _ t _ T.a (FX.out _ _ FB.out.1 FB.out.2.1 FB.out.2.2.1 FB.out.2.2.2) (by omega) (by omega)).mono ?_
            rintro e w7 ⟨he, k7, hg⟩
            rw [AG.out.1 _ FB.out.2.1] at he
            subst he
            have T7 := T.onA k7 hg
            clear k7 hg
            go_wp2_with fail
            refine (have_any gb M E B (B - x) 0 t _ T7.b (FX.out _ _ (by omega) (by omega) (by omega) (by omega)) (by omega) (by omega)).mono ?_
            rintro e w8 ⟨rfl, k8, hg⟩
            have T8 := T7.onB k8 hg
            clear k8 hg
            go_wp2_with fail
            go_ret
            exact ⟨rfl, T8.bel⟩
    · have R := Lib.hid r; clear r
      go_enter Try.func5, Try.ntmps5
      go_wp2_with fail
      refine (alive_any _).mono ?_
      rintro e w1 ⟨rfl, hb⟩
      have r1 := HA.out.below hb (by simp)
      have HB := Lib.hid hb; clear hb
      have R1 := Lib.hid r1
      obtain ⟨c0, c1, c2⟩ := r1.cells
      clear r1
      go_wp2_with fail
      refine (new_no M E B 0 _ R.out).mono ?_
      rintro e w2 ⟨rfl, hb2⟩
      have r2 := R1.out.below hb2 (by have := lt_of_block R1.out; omega)
      have HB2 := Lib.hid hb2; clear hb2
      clear c0 c1 c2
      obtain ⟨c0, c1, c2⟩ := r2.cells
      clear r2
      go_wp2_with fail
      refine (new_no M E B 0 _ R.out).mono ?_
      rintro e w3 ⟨rfl, hb3⟩
      have HB3 := Lib.hid hb3; clear hb3 c0 c1 c2
      go_wp2_with fail
      go_ret
      exact ⟨rfl, two_no HB.out HB2.out HB3.out⟩
  · go_enter Try.func5, Try.ntmps5
    go_wp2_with (go_at_call 9; refine (alive_any _).mono ?_; rintro e w1 ⟨rfl, hb⟩; have HB := Lib.hid hb; clear hb)
    go_ret
    exact ⟨rfl, ((Below.refl _ _).alloc (Nat.le_refl _) _).trans (HB.out.mono (by simp))⟩

theorem lazy_top (M E B : Int) (ad : Option Addr) (len cap : Nat) (z : List Int) (n : Int) (w : World) (_ : (Lit.int .i64 M).wf = true) (_ : (Lit.int .u64 E).wf = true) (_ : (Lit.int .i64 B).wf = true) (w3 : IsRow .u32 w ad len cap z) (w6 : (Lit.int .i64 n).wf = true) :
    Calls Try.prog 5 #[.agg #[.int .i64 M, .int .u64 E, .int .i64 B], .slice ad len cap, .int .i64 n] w fun e w' => e = .returned (.bool true) ∧ Below w.heap.size w w' := by
  obtain ⟨l, rfl, hc, hm, hi, hf⟩ := w3.ints
  exact lazy_walk M E B ad cap l n w w6 hi (by unfold maxLen at hm; omega) hf
end Go.Proofs.Ytgnamdncoidcnaa
