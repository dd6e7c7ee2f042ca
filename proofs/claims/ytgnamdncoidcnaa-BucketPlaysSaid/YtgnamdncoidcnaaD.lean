/- The law of the split. -/
import Derived.Test.YtgnamdncoidcnaaC
namespace Go.Proofs.Ytgnamdncoidcnaa
open Go.RowKit
set_option linter.unusedSimpArgs false
set_option linter.unusedVariables false

/-- Block g is a rate. -/
def Rt (w : World) (g : Nat) (M E B : Int) : Prop := w.heap[g]? = some (.cells #[.int .i64 M, .int .u64 E, .int .i64 B] 24 (0, 0))
theorem Rt.cells {w : World} {g : Nat} {M E B : Int} (k : Rt w g M E B) :
    w.cell? ⟨g, 0, none⟩ = some (.int .i64 M) ∧ w.cell? ⟨g, 1, none⟩ = some (.int .u64 E) ∧ w.cell? ⟨g, 2, none⟩ = some (.int .i64 B) := by
  unfold Rt at k
  simp [World.cell?, k]
theorem lt_of_block {w : World} {g : Nat} {o : Obj} (h : w.heap[g]? = some o) : g < w.heap.size := (Array.getElem?_eq_some_iff.1 h).1
theorem Rt.new (w : World) (M E B : Int) : Rt (w.alloc (.cells #[.int .i64 M, .int .u64 E, .int .i64 B] 24)) w.heap.size M E B := by
  show (w.heap.push _)[w.heap.size]? = _
  simp
theorem Rt.below {w w' : World} {g b : Nat} {M E B : Int} (k : Rt w g M E B) (h : Below b w w') (hb : g < b) : Rt w' g M E B := (h.block g hb).trans k
theorem Rt.grown {w w' : World} {g r : Nat} {M E B : Int} (k : Rt w g M E B) (h : w.grownBy w' (some r)) (hne : g ≠ r) : Rt w' g M E B :=
  (h.block g (lt_of_block k) (fun e => hne (by injection e))).trans k
theorem Bk.below {w w' : World} {g b : Nat} {M E B h c : Int} (k : Bk w g M E B h c) (hb : Below b w w') (hl : g < b) : Bk w' g M E B h c := (hb.block g hl).trans k
theorem Bk.grown {w w' : World} {g r : Nat} {M E B h c : Int} (k : Bk w g M E B h c) (hb : w.grownBy w' (some r)) (hne : g ≠ r) : Bk w' g M E B h c :=
  (hb.block g (lt_of_block k) (fun e => hne (by injection e))).trans k
theorem Bk.lt {w : World} {g : Nat} {M E B h c : Int} (k : Bk w g M E B h c) : g < w.heap.size := lt_of_block k

theorem Rated.fits {M E B : Int} (r : Rated M E B) (h c : Int) (h1 : -2147483647 ≤ h) (h2 : h ≤ B) (c1 : 0 ≤ c) (c2 : c ≤ 18446744073709551615) : Fits M E B h c := by
  obtain ⟨a, b, c', d, e, f⟩ := r; exact ⟨a, b, c', d, e, f, h1, h2, c1, c2⟩

theorem cH_full (M E B c now : Int) (r : Rated M E B) : cH M E B B c now = B := by
  unfold cH; split
  · rfl
  · have : 0 ≤ (now - c) / E * M := Int.mul_nonneg (Int.ediv_nonneg (by omega) (by have := r.2.2.1; omega)) (by have := r.1; omega)
    rw [if_pos (by omega)]
theorem cC_rest (E c now : Int) (e1 : 1 ≤ E) : now ≤ cC E c now ∨ (now - cC E c now) / E = 0 := by
  unfold cC; split
  · exact .inl (by assumption)
  · right
    have h := Int.mul_ediv_add_emod (now - c) E
    have e : now - (c + (now - c) / E * E) = (now - c) % E := by rw [Int.mul_comm] at h; omega
    rw [e]
    exact Int.ediv_eq_zero_of_lt (Int.emod_nonneg _ (by omega)) (Int.emod_lt_of_pos _ (by omega))
/-- A second look at one tick changes nothing. -/
theorem again (M E B c now : Int) (e1 : 1 ≤ E) : (∀ h, h ≤ B → cH M E B h (cC E c now) now = h) ∧ cC E (cC E c now) now = cC E c now := by
  rcases cC_rest E c now e1 with h0 | h0
  · exact ⟨fun h _ => by unfold cH; rw [if_pos h0], by rw [cC, if_pos h0]⟩
  · generalize cC E c now = d at *
    refine ⟨fun h hb => ?_, ?_⟩
    · unfold cH; rw [h0]; simp only [Int.zero_mul, Int.add_zero]; split
      · rfl
      · split <;> omega
    · unfold cC; rw [h0]; simp

theorem tk_split (v n m : Int) (v1 : 1 ≤ v) (n0 : 0 ≤ n) (m0 : 0 ≤ m) : tk v n + tk (v - tk v n) m = tk v (n + m) ∧ tk v (n + m) = (if v ≤ n + m then v else n + m) ∧ 0 ≤ tk v n ∧ tk v n ≤ v ∧ 0 ≤ tk (v - tk v n) m ∧ tk (v - tk v n) m ≤ v - tk v n ∧ 0 ≤ tk v (n + m) ∧ tk v (n + m) ≤ v := by
  unfold tk; repeat' split
  all_goals omega

set_option maxHeartbeats 4000000 in
set_option maxRecDepth 100000 in
theorem split_walk (M E B now more n m : Int) (w : World) (t0 : 0 ≤ now) (t1 : now ≤ 18446744073709551615) (mo0 : 0 ≤ more) (mo1 : more ≤ 4294967295)
    (n1 : -9223372036854775808 ≤ n) (n2 : n ≤ 9223372036854775807) (m1 : -9223372036854775808 ≤ m) (m2 : m ≤ 9223372036854775807) :
    Calls Try.prog 4 #[.agg #[.int .i64 M, .int .u64 E, .int .i64 B], .int .u64 now, .int .u32 more, .int .i64 n, .int .i64 m] w fun e w' => e = .returned (.bool true) ∧ Below w.heap.size w w' := by
  have HA := Lib.hid (Rt.new w M E B)
  by_cases hg : n < 0 ∨ m < 0 ∨ 1099511627776 < n ∨ 1099511627776 < m ∨ 1152921504606846976 < now
  · rcases (show n < 0 ∨ (0 ≤ n ∧ m < 0) ∨ (0 ≤ n ∧ 0 ≤ m ∧ 1099511627776 < n) ∨ (0 ≤ n ∧ 0 ≤ m ∧ n ≤ 1099511627776 ∧ 1099511627776 < m) ∨ (0 ≤ n ∧ 0 ≤ m ∧ n ≤ 1099511627776 ∧ m ≤ 1099511627776 ∧ 1152921504606846976 < now) by omega)
      with h1 | ⟨h1, h2⟩ | ⟨h1, h2, h3⟩ | ⟨h1, h2, h3, h4⟩ | ⟨h1, h2, h3, h4, h5⟩
    all_goals
      clear hg HA
      go_enter Try.func4, Try.ntmps4
      go_wp2_with (go_at_call 9; refine (alive_any _).mono ?_; rintro e w1 ⟨rfl, hb⟩; have HB := Lib.hid hb; clear hb)
      go_ret
      exact ⟨rfl, ((Below.refl _ _).alloc (Nat.le_refl _) _).trans (HB.out.mono (by simp))⟩
  · have n0 : 0 ≤ n := by omega
    have m0 : 0 ≤ m := by omega
    have n3 : n ≤ 1099511627776 := by omega
    have m3 : m ≤ 1099511627776 := by omega
    have t3 : now ≤ 1152921504606846976 := by omega
    clear hg t1 n1 n2 m1 m2
    by_cases r : Rated M E B
    · have R := Lib.hid r; clear r
      obtain ⟨ag1, ag2⟩ := again M E B now (now + more) R.out.2.2.1
      have cb := cH_bd M E B B now (now + more) (R.out.fits B now (by have := R.out; unfold Rated at this; omega) (Int.le_refl _) (by omega) (by omega)) (by omega)
      have hf := cH_full M E B now (now + more) R.out
      obtain ⟨ts, tz, x0, x1, y0, y1, z0, z1⟩ := tk_split B n m (by have := R.out; unfold Rated at this; omega) n0 m0
      have B1 : 1 ≤ B := by have := R.out; unfold Rated at this; omega
      have B2 : B ≤ 2147483647 := R.out.2.2.2.2.2
      have hd0 : 0 ≤ cC E now (now + more) ∧ cC E now (now + more) ≤ 18446744073709551615 := by omega
      clear cb
      generalize hd : cC E now (now + more) = d at *
      obtain ⟨d0, d1⟩ := hd0
      generalize hx : tk B n = x at *
      generalize hy : tk (B - x) m = y at *
      generalize hz : tk B (n + m) = z at *
      have HD := Lib.hid hd; have HX := Lib.hid hx; have HY := Lib.hid hy; have HZ := Lib.hid hz; have HF := Lib.hid hf; have AG1 := Lib.hid ag1; have AG2 := Lib.hid ag2; have TZ := Lib.hid tz
      clear hd hx hy hz hf ag1 ag2 tz
      have a1 := AG1.out (B - x) (by omega)
      have a2 := AG1.out (B - x - y) (by omega)
      have a3 := AG1.out (B - z) (by omega)
      have a4 := AG1.out B (by omega)
      have A1 := Lib.hid a1; have A2 := Lib.hid a2; have A3 := Lib.hid a3; have A4 := Lib.hid a4
      clear a1 a2 a3 a4 AG1
      have TS := Lib.hid ts; clear ts
      have fx : ∀ h c, -2147483647 ≤ h → h ≤ B → 0 ≤ c → c ≤ 18446744073709551615 → Fits M E B h c := fun h c p1 p2 p3 p4 => R.out.fits h c p1 p2 p3 p4
      have FX := Lib.hid fx; clear fx
      go_enter Try.func4, Try.ntmps4
      go_wp2_with fail
      refine (alive_any _).mono ?_
      rintro e w1 ⟨rfl, hb⟩
      have r1 := HA.out.below hb (by simp)
      have HB := Lib.hid hb; clear hb
      have R1 := Lib.hid r1
      obtain ⟨c0, c1, c2⟩ := r1.cells
      clear r1
      go_wp2_with fail
      refine (new_yes M E B now _ R.out).mono ?_
      rintro e w2 ⟨ga, rfl, hga, ka, hb2⟩
      have r2 := R1.out.below hb2 (by have := lt_of_block R1.out; omega)
      have HB2 := Lib.hid hb2; have KA := Lib.hid ka; clear hb2 ka
      clear c0 c1 c2
      obtain ⟨c0, c1, c2⟩ := r2.cells
      clear r2
      go_wp2_with fail
      refine (new_yes M E B now _ R.out).mono ?_
      rintro e w3 ⟨gb, rfl, hgb, kb, hb3⟩
      have KA3 := Lib.hid (KA.out.below hb3 KA.out.lt)
      have hab : ga < gb := by have := KA.out.lt; omega
      have HB3 := Lib.hid hb3; have KB3 := Lib.hid kb; clear hb3 kb c0 c1 c2
      go_wp2_with fail
      refine (have_any ga M E B B now (now + more) _ KA3.out (FX.out _ _ (by omega) (by omega) (by omega) (by omega)) (by omega) (by omega)).mono ?_
      rintro e w4 ⟨he, k, hg⟩
      rw [HF.out] at he k; rw [HD.out] at k; subst he
      have K4 := Lib.hid k; have KB4 := Lib.hid (KB3.out.grown hg (by omega)); have G4 := Lib.hid hg; clear k hg
      go_wp2_with fail
      refine (take_any ga M E B B d (now + more) n _ K4.out (FX.out _ _ (by omega) (by omega) (by omega) (by omega)) (by omega) (by omega)).mono ?_
      rintro e w5 ⟨he, k, hg⟩
      rw [A4.out, HX.out] at he k; rw [AG2.out] at k; subst he
      have K5 := Lib.hid k; have KB5 := Lib.hid (KB4.out.grown hg (by omega)); have G5 := Lib.hid hg; clear k hg
      go_wp2_with fail
      refine (take_any ga M E B (B - x) d (now + more) m _ K5.out (FX.out _ _ (by omega) (by omega) (by omega) (by omega)) (by omega) (by omega)).mono ?_
      rintro e w6 ⟨he, k, hg⟩
      rw [A1.out, HY.out] at he k; rw [AG2.out] at k; subst he
      have K6 := Lib.hid k; have KB6 := Lib.hid (KB5.out.grown hg (by omega)); have G6 := Lib.hid hg; clear k hg
      go_wp2_with fail
      refine (take_any gb M E B B now (now + more) (n + m) _ KB6.out (FX.out _ _ (by omega) (by omega) (by omega) (by omega)) (by omega) (by omega)).mono ?_
      rintro e w7 ⟨he, k, hg⟩
      rw [HF.out, HZ.out] at he k; rw [HD.out] at k; subst he
      have K7 := Lib.hid k; have KA7 := Lib.hid (K6.out.grown hg (by omega)); have G7 := Lib.hid hg; clear k hg
      go_wp2_with fail
      refine (have_any ga M E B (B - x - y) d (now + more) _ KA7.out (FX.out _ _ (by omega) (by omega) (by omega) (by omega)) (by omega) (by omega)).mono ?_
      rintro e w8 ⟨he, k, hg⟩
      rw [A2.out] at he; subst he
      have K8 := Lib.hid (K7.out.grown hg (by omega)); have G8 := Lib.hid hg; clear k hg
      have q1 : B - x - y = B - z := by have := TS.out; omega
      go_wp2_with fail
      refine (have_any gb M E B (B - z) d (now + more) _ K8.out (FX.out _ _ (by omega) (by omega) (by omega) (by omega)) (by omega) (by omega)).mono ?_
      rintro e w9 ⟨he, k, hg⟩
      rw [A3.out] at he; subst he
      have G9 := Lib.hid hg; clear k hg
      have tz := TZ.out
      go_wp2_with fail
      all_goals
        go_ret
        go_tidy
        refine ⟨ret_bool ?_, ?_⟩
        · first | rfl | (simp; omega)
        · have b1 := HB.out; have b2 := HB2.out; have b3 := HB3.out
          have s1 := b1.size; have s2 := b2.size; have s3 := b3.size
          simp at s1
          have b : Below w.heap.size w w3 := ((((Below.refl _ _).alloc (Nat.le_refl _) _).trans (b1.mono (by simp))).trans (b2.mono (by omega))).trans (b3.mono (by omega))
          have g1 := grown_trans (grown_trans G4.out G5.out) G6.out
          have c1 : Below w.heap.size w w6 := b.grown g1 (by omega) (fun k e => by cases e; omega)
          have c2 : Below w.heap.size w w7 := c1.grown G7.out (by have := g1.size; omega) (fun k e => by cases e; omega)
          have c3 : Below w.heap.size w w8 := c2.grown G8.out (by have := g1.size; have := G7.out.size; omega) (fun k e => by cases e; omega)
          exact c3.grown G9.out (by have := g1.size; have := G7.out.size; have := G8.out.size; omega) (fun k e => by cases e; omega)
    · have R := Lib.hid r; clear r
      go_enter Try.func4, Try.ntmps4
      go_wp2_with fail
      refine (alive_any _).mono ?_
      rintro e w1 ⟨rfl, hb⟩
      have r1 := HA.out.below hb (by simp)
      have HB := Lib.hid hb; clear hb
      have R1 := Lib.hid r1
      obtain ⟨c0, c1, c2⟩ := r1.cells
      clear r1
      go_wp2_with fail
      refine (new_no M E B now _ R.out).mono ?_
      rintro e w2 ⟨rfl, hb2⟩
      have r2 := R1.out.below hb2 (by have := lt_of_block R1.out; omega)
      have HB2 := Lib.hid hb2; clear hb2
      clear c0 c1 c2
      obtain ⟨c0, c1, c2⟩ := r2.cells
      clear r2
      go_wp2_with fail
      refine (new_no M E B now _ R.out).mono ?_
      rintro e w3 ⟨rfl, hb3⟩
      have HB3 := Lib.hid hb3; clear hb3 c0 c1 c2
      go_wp2_with fail
      go_ret
      refine ⟨rfl, ?_⟩
      have b1 := HB.out; have b2 := HB2.out; have b3 := HB3.out
      have s1 := b1.size; have s2 := b2.size
      simp at s1
      exact ((((Below.refl _ _).alloc (Nat.le_refl _) _).trans (b1.mono (by simp))).trans (b2.mono (by omega))).trans (b3.mono (by omega))
theorem split_top (M E B now more n m : Int) (w : World) (w0 : (Lit.int .i64 M).wf = true) (w1 : (Lit.int .u64 E).wf = true) (w2 : (Lit.int .i64 B).wf = true) (w3 : (Lit.int .u64 now).wf = true) (w4 : (Lit.int .u32 more).wf = true) (w5 : (Lit.int .i64 n).wf = true) (w6 : (Lit.int .i64 m).wf = true) :
    Calls Try.prog 4 #[.agg #[.int .i64 M, .int .u64 E, .int .i64 B], .int .u64 now, .int .u32 more, .int .i64 n, .int .i64 m] w fun e w' => e = .returned (.bool true) ∧ Below w.heap.size w w' :=
  split_walk M E B now more n m w (bd_u64 w3).1 (bd_u64 w3).2 (bd_u32 w4).1 (bd_u32 w4).2 (bd_i64 w5).1 (bd_i64 w5).2 (bd_i64 w6).1 (bd_i64 w6).2
end Go.Proofs.Ytgnamdncoidcnaa
