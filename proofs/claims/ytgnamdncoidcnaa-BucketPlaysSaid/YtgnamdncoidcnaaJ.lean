/- The reference's bucket: its contracts. -/
import Derived.Test.YtgnamdncoidcnaaI
namespace Go.Proofs.Ytgnamdncoidcnaa
open Go.RowKit
set_option linter.unusedSimpArgs false
set_option linter.unusedVariables false

/-- Block g is a bucket of the reference. -/
def Rk (w : World) (g : Nat) (M E B h c : Int) : Prop := w.heap[g]? = some (.cells #[.int .i64 M, .int .i64 B, .int .u64 E, .int .i64 h, .int .u64 c] 45 (0, 0))
theorem Rk.cells {w : World} {g : Nat} {M E B h c : Int} (k : Rk w g M E B h c) :
    w.cell? ⟨g, 0, none⟩ = some (.int .i64 M) ∧ w.cell? ⟨g, 1, none⟩ = some (.int .i64 B) ∧ w.cell? ⟨g, 2, none⟩ = some (.int .u64 E) ∧ w.cell? ⟨g, 3, none⟩ = some (.int .i64 h) ∧ w.cell? ⟨g, 4, none⟩ = some (.int .u64 c) ∧
    w.frozen? ⟨g, 0, none⟩ = false ∧ w.frozen? ⟨g, 1, none⟩ = false ∧ w.frozen? ⟨g, 2, none⟩ = false ∧ w.frozen? ⟨g, 3, none⟩ = false ∧ w.frozen? ⟨g, 4, none⟩ = false := by
  unfold Rk at k
  simp [World.cell?, World.frozen?, k]
theorem Rk.drewN {w : World} {g : Nat} {M E B h c : Int} (k : Rk w g M E B h c) (n : Nat) : Rk (w.drewN n) g M E B h c := k
theorem Rk.lt {w : World} {g : Nat} {M E B h c : Int} (k : Rk w g M E B h c) : g < w.heap.size := lt_of_block k
theorem Rk.below {w w' : World} {g b : Nat} {M E B h c : Int} (k : Rk w g M E B h c) (hb : Below b w w') (hl : g < b) : Rk w' g M E B h c := (hb.block g hl).trans k
theorem Rk.grown {w w' : World} {g r : Nat} {M E B h c : Int} (k : Rk w g M E B h c) (hb : w.grownBy w' (some r)) (hne : g ≠ r) : Rk w' g M E B h c :=
  (hb.block g (lt_of_block k) (fun e => hne (by injection e))).trans k
theorem Rk.alloc {w : World} {g : Nat} {M E B h c : Int} (k : Rk w g M E B h c) (o : Obj) : Rk (w.alloc o) g M E B h c := (Below.heap_alloc w o g k.lt).trans k

theorem Rk.stored {w : World} {g : Nat} {M E B h c : Int} (k : Rk w g M E B h c) (a b : Nat) (h' c' : Int) :
    Rk ((((w.drewN a).setCell ⟨g, 4, none⟩ (.int .u64 c')).drewN b).setCell ⟨g, 3, none⟩ (.int .i64 h')) g M E B h' c' ∧
    w.grownBy ((((w.drewN a).setCell ⟨g, 4, none⟩ (.int .u64 c')).drewN b).setCell ⟨g, 3, none⟩ (.int .i64 h')) (some g) := by
  unfold Rk at *
  constructor
  · simp [World.setCell, World.drewN, Array.getElem?_modify, k]
  · refine ⟨rfl, rfl, rfl, by simp [World.setCell, World.drewN], fun i hi hne => ?_⟩
    have hne' : ¬ g = i := fun e => hne (by rw [e])
    simp [World.setCell, World.drewN, Array.getElem?_modify, hne']
theorem Rk.have_ {w : World} {g : Nat} {M E B h c : Int} (k : Rk w g M E B h c) (h' : Int) :
    Rk (w.setCell ⟨g, 3, none⟩ (.int .i64 h')) g M E B h' c ∧ w.grownBy (w.setCell ⟨g, 3, none⟩ (.int .i64 h')) (some g) := by
  unfold Rk at *
  constructor
  · simp [World.setCell, Array.getElem?_modify, k]
  · refine ⟨rfl, rfl, rfl, by simp [World.setCell], fun i hi hne => ?_⟩
    have hne' : ¬ g = i := fun e => hne (by rw [e])
    simp [World.setCell, Array.getElem?_modify, hne']

set_option maxHeartbeats 1000000 in
theorem rcomes_old (g : Nat) (M E B h c now : Int) (w : World) (k : Rk w g M E B h c) (n1 : now ≤ c) :
    Calls Try.prog 22 #[.pointer (some ⟨g, 0, none⟩), .int .u64 now] w fun e w' => e = .returned (.tuple #[]) ∧ w = w' := by
  obtain ⟨k0, k1, k2, k3, k4, z0, z1, z2, z3, z4⟩ := k.cells
  have hK := Lib.hid k; clear k
  go_enter Try.func22, Try.ntmps22
  go_wp2
  refine bodyPost_ret (results_none rfl _ _ _) rfl ?_
  exact ⟨rfl, rfl⟩

set_option maxHeartbeats 2000000 in
theorem rcomes_new (g : Nat) (M E B h c now : Int) (w : World) (k : Rk w g M E B h c) (f : Fits M E B h c) (n0 : c < now) (n1 : now ≤ 18446744073709551615) :
    Calls Try.prog 22 #[.pointer (some ⟨g, 0, none⟩), .int .u64 now] w fun e w' => e = .returned (.tuple #[]) ∧ Rk w' g M E B (cH M E B h c now) (cC E c now) ∧ w.grownBy w' (some g) := by
  obtain ⟨k0, k1, k2, k3, k4, y0, y1, y2, z3, z4⟩ := k.cells
  have hK := Lib.hid k; clear k y0 y1 y2
  obtain ⟨t, m, q, ht, hm, hq, t0, m0, m1', t1, q0, q1, hr⟩ := comes_nums M E B h c now f n0 n1
  clear hr hq
  obtain ⟨m1, m2, e1, e2, b1, b2, h1, h2, c1, c2⟩ := f
  have HH := Lib.hid (cH_new M E B h c now t n0 ht)
  have HC := Lib.hid (cC_new E c now t n0 ht)
  by_cases hge : B - h ≤ t
  · have HP := Lib.hid (show B ≤ h + t * M by
      have : t * 1 ≤ t * M := Int.mul_le_mul_of_nonneg_left (by omega) t0
      omega)
    go_enter Try.func22, Try.ntmps22
    go_wp2
    go_quiet (fail)
    go_wp2
    go_region
    go_wp2
    go_quiet (fail)
    go_wp2
    refine bodyPost_ret (results_none rfl _ _ _) rfl ?_
    go_tidy
    rw [HH.out, HC.out, hm, if_pos HP.out]
    exact ⟨rfl, hK.out.stored _ _ _ _⟩
  · have p0 : 0 ≤ t * M := Int.mul_nonneg t0 (by omega)
    have p1 : t * M ≤ 4294967294 * 2147483647 := Int.mul_le_mul (by omega) m2 (by omega) (by omega)
    have p2 : t * M ≤ 9223372030412324866 := by omega
    have p3 : h + t * M ≤ 9223372036854775807 := by omega
    clear p1
    generalize hp : t * M = p at *
    have hw1 : wrap64 p = p := IntWalk.wrap64_in p (by omega)
    have hw2 : wrap64 (h + p) = h + p := IntWalk.wrap64_in _ (by omega)
    by_cases hB : B ≤ h + p
    all_goals
      go_enter Try.func22, Try.ntmps22
      go_wp2
      go_quiet (fail)
      go_wp2
      go_region
      go_wp2
      go_quiet (fail)
      go_wp2
      go_region
      go_wp2
      go_end0
      go_tidy
      rw [HH.out, HC.out, hm]
      first | rw [if_pos hB] | rw [if_neg (by omega)]
      exact ⟨rfl, hK.out.stored _ _ _ _⟩

theorem rcomes_any (g : Nat) (M E B h c now : Int) (w : World) (k : Rk w g M E B h c) (f : Fits M E B h c) (n0 : 0 ≤ now) (n1 : now ≤ 18446744073709551615) :
    Calls Try.prog 22 #[.pointer (some ⟨g, 0, none⟩), .int .u64 now] w fun e w' => e = .returned (.tuple #[]) ∧ Rk w' g M E B (cH M E B h c now) (cC E c now) ∧ w.grownBy w' (some g) := by
  by_cases hn : now ≤ c
  · refine (rcomes_old g M E B h c now w k hn).mono ?_
    rintro e w' ⟨rfl, rfl⟩
    have e1 : cH M E B h c now = h := by unfold cH; rw [if_pos hn]
    have e2 : cC E c now = c := by unfold cC; rw [if_pos hn]
    rw [e1, e2]
    exact ⟨rfl, k, grown_refl _ _⟩
  · exact rcomes_new g M E B h c now w k f (by omega) n1

set_option maxHeartbeats 400000 in
theorem rtake_any (g : Nat) (M E B h c now n : Int) (w : World) (k : Rk w g M E B h c) (f : Fits M E B h c) (n0 : 0 ≤ now) (n1 : now ≤ 18446744073709551615) :
    Calls Try.prog 17 #[.pointer (some ⟨g, 0, none⟩), .int .u64 now, .int .i64 n] w fun e w' => e = .returned (.int .i64 (tk (cH M E B h c now) n)) ∧
      Rk w' g M E B (cH M E B h c now - tk (cH M E B h c now) n) (cC E c now) ∧ w.grownBy w' (some g) := by
  have K := Lib.hid k; clear k
  obtain ⟨x1, x2, x3, x4⟩ := cH_bd M E B h c now f n1
  have HV := Lib.hid (rcomes_any g M E B h c now w K.out f n0 n1)
  obtain ⟨m1, m2, e1, e2, b1, b2, h1, h2, c1, c2⟩ := f
  generalize cH M E B h c now = v at *
  generalize cC E c now = d at *
  clear x4
  by_cases hn : n < 1 ∨ v < 1
  · have ht : tk v n = 0 := by unfold tk; rw [if_pos hn]
    rw [ht, Int.sub_zero]
    rcases (show n < 1 ∨ (1 ≤ n ∧ v < 1) by omega) with hn1 | ⟨hn1, hn2⟩
    all_goals
      clear hn ht
      go_enter Try.func17, Try.ntmps17
      go_wp2_with (go_at_call 22; refine HV.out.mono ?_; rintro e w1 ⟨rfl, k1, hg⟩; have K1 := Lib.hid k1; have G1 := Lib.hid hg; clear hg; obtain ⟨q0, q1, q2, q3, q4, y0, y1, y2, z3, z4⟩ := k1.cells; clear k1)
      go_ret
      exact ⟨rfl, K1.out, G1.out⟩
  · by_cases hm : n ≤ v
    · have ht : tk v n = n := by unfold tk; rw [if_neg hn, if_pos hm]
      rw [ht]
      have hn1 : 1 ≤ n := by omega
      have hn2 : 1 ≤ v := by omega
      clear hn ht
      go_enter Try.func17, Try.ntmps17
      go_wp2_with (go_at_call 22; refine HV.out.mono ?_; rintro e w1 ⟨rfl, k1, hg⟩; have K1 := Lib.hid k1; have G1 := Lib.hid hg; clear hg; obtain ⟨q0, q1, q2, q3, q4, y0, y1, y2, z3, z4⟩ := k1.cells; clear k1)
      go_ret
      exact ⟨rfl, (K1.out.have_ _).1, grown_trans G1.out (K1.out.have_ _).2⟩
    · have ht : tk v n = v := by unfold tk; rw [if_neg hn, if_neg hm]
      rw [ht]
      have hn1 : 1 ≤ n := by omega
      have hn2 : 1 ≤ v := by omega
      clear hn ht
      go_enter Try.func17, Try.ntmps17
      go_wp2_with (go_at_call 22; refine HV.out.mono ?_; rintro e w1 ⟨rfl, k1, hg⟩; have K1 := Lib.hid k1; have G1 := Lib.hid hg; clear hg; obtain ⟨q0, q1, q2, q3, q4, y0, y1, y2, z3, z4⟩ := k1.cells; clear k1)
      go_ret
      rw [Int.sub_self]
      exact ⟨rfl, (K1.out.have_ _).1, grown_trans G1.out (K1.out.have_ _).2⟩

set_option maxHeartbeats 400000 in
theorem rborrow_any (g : Nat) (M E B h c now n : Int) (w : World) (k : Rk w g M E B h c) (f : Fits M E B h c) (n0 : 0 ≤ now) (n1 : now ≤ 18446744073709551615) :
    Calls Try.prog 18 #[.pointer (some ⟨g, 0, none⟩), .int .u64 now, .int .i64 n] w fun e w' => e = .returned (.int .i64 (boE (cH M E B h c now) n)) ∧
      Rk w' g M E B (boH (cH M E B h c now) n) (cC E c now) ∧ w.grownBy w' (some g) := by
  have K := Lib.hid k; clear k
  obtain ⟨x1, x2, x3, x4⟩ := cH_bd M E B h c now f n1
  have HV := Lib.hid (rcomes_any g M E B h c now w K.out f n0 n1)
  obtain ⟨m1, m2, e1, e2, b1, b2, h1, h2, c1, c2⟩ := f
  generalize cH M E B h c now = v at *
  generalize cC E c now = d at *
  clear x4
  by_cases hn : n < 0 ∨ 2147483647 < n ∨ v - n < -2147483647
  · have ht : boE v n = 2 ∧ boH v n = v := by unfold boE boH; rw [if_pos hn, if_pos hn]; exact ⟨rfl, rfl⟩
    rw [ht.1, ht.2]
    clear ht
    rcases (show n < 0 ∨ (0 ≤ n ∧ 2147483647 < n) ∨ (0 ≤ n ∧ n ≤ 2147483647 ∧ v - n < -2147483647) by omega) with hn | ⟨hn1, hn⟩ | ⟨hn1, hn2, hn⟩
    all_goals
      go_enter Try.func18, Try.ntmps18
      go_wp2_with (go_at_call 22; refine HV.out.mono ?_; rintro e w1 ⟨rfl, k1, hg⟩; have K1 := Lib.hid k1; have G1 := Lib.hid hg; clear hg; obtain ⟨q0, q1, q2, q3, q4, y0, y1, y2, z3, z4⟩ := k1.cells; clear k1)
      go_ret
      exact ⟨rfl, K1.out, G1.out⟩
  · have ht : boE v n = 0 ∧ boH v n = v - n := by unfold boE boH; rw [if_neg hn, if_neg hn]; exact ⟨rfl, rfl⟩
    rw [ht.1, ht.2]
    clear ht
    have a1 : 0 ≤ n := by omega
    have a2 : n ≤ 2147483647 := by omega
    have a3 : -2147483647 ≤ v - n := by omega
    clear hn
    go_enter Try.func18, Try.ntmps18
    go_wp2_with (go_at_call 22; refine HV.out.mono ?_; rintro e w1 ⟨rfl, k1, hg⟩; have K1 := Lib.hid k1; have G1 := Lib.hid hg; clear hg; obtain ⟨q0, q1, q2, q3, q4, y0, y1, y2, z3, z4⟩ := k1.cells; clear k1)
    go_ret
    exact ⟨rfl, (K1.out.have_ _).1, grown_trans G1.out (K1.out.have_ _).2⟩

theorem ceil_is (l M : Int) (hl : 0 < l) (hM : 1 ≤ M) : (l + M - 1) / M = if l % M = 0 then l / M else l / M + 1 := by
  have h1 := Int.mul_ediv_add_emod l M
  have h2 := Int.emod_nonneg l (show M ≠ 0 by omega)
  have h3 := Int.emod_lt_of_pos l (show 0 < M by omega)
  rw [Int.mul_comm] at h1
  split
  · exact ediv_is (by omega) (by omega) (by rw [Int.add_mul]; omega)
  · exact ediv_is (by omega) (by rw [Int.add_mul]; omega) (by rw [Int.add_mul, Int.add_mul]; omega)

set_option maxHeartbeats 2000000 in
theorem rwhen_any (g : Nat) (M E B h c now n : Int) (w : World) (k : Rk w g M E B h c) (f : Fits M E B h c) (n0 : 0 ≤ now) (n1 : now ≤ 18446744073709551615) :
    Calls Try.prog 19 #[.pointer (some ⟨g, 0, none⟩), .int .u64 now, .int .i64 n] w fun e w' => e = .returned (.int .u64 (whenV M E B (cH M E B h c now) (cC E c now) now n)) ∧
      Rk w' g M E B (cH M E B h c now) (cC E c now) ∧ w.grownBy w' (some g) := by
  have f2 := f.comes n1
  have HV := Lib.hid (rcomes_any g M E B h c now w k f n0 n1)
  clear f k
  generalize cH M E B h c now = v at *
  generalize cC E c now = d at *
  obtain ⟨m1, m2, e1, e2, b1, b2, h1, h2, c1, c2⟩ := f2
  by_cases hv : n ≤ v
  · have ht : whenV M E B v d now n = now := by unfold whenV; rw [if_pos hv]
    rw [ht]; clear ht
    go_enter Try.func19, Try.ntmps19
    go_wp2_with (go_at_call 22; refine HV.out.mono ?_; rintro e w1 ⟨rfl, k1, hg⟩; have K1 := Lib.hid k1; have G1 := Lib.hid hg; clear hg; obtain ⟨q0, q1, q2, q3, q4, y0, y1, y2, z3, z4⟩ := k1.cells; clear k1)
    go_ret
    exact ⟨rfl, K1.out, G1.out⟩
  · by_cases hB : B < n
    · have ht : whenV M E B v d now n = 18446744073709551615 := by unfold whenV; rw [if_neg hv, if_pos hB]
      rw [ht]; clear ht
      go_enter Try.func19, Try.ntmps19
      go_wp2_with (go_at_call 22; refine HV.out.mono ?_; rintro e w1 ⟨rfl, k1, hg⟩; have K1 := Lib.hid k1; have G1 := Lib.hid hg; clear hg; obtain ⟨q0, q1, q2, q3, q4, y0, y1, y2, z3, z4⟩ := k1.cells; clear k1)
      go_ret
      exact ⟨rfl, K1.out, G1.out⟩
    · have ht : whenV M E B v d now n = if now ≤ dl d ((n - v + M - 1) / M * E) then dl d ((n - v + M - 1) / M * E) else now := by unfold whenV; rw [if_neg hv, if_neg hB]
      rw [ht, ceil_is (n - v) M (by omega) m1]; clear ht
      have hl0 : 0 < n - v := by omega
      have hl1 : n - v ≤ 4294967294 := by omega
      have q0 : 0 ≤ (n - v) / M := Int.ediv_nonneg (by omega) (by omega)
      have q1 : (n - v) / M ≤ n - v := Int.ediv_le_self _ (by omega)
      by_cases hr : (n - v) % M = 0
      · rw [if_pos hr]
        have br : ((n - v) % M != 0) = false := by simp [hr]
        clear hr
        generalize hq : (n - v) / M = q at *
        have p0 : 0 ≤ q * E := Int.mul_nonneg (by omega) (by omega)
        have p1 : q * E ≤ 4294967295 * 1048576 := Int.mul_le_mul (by omega) e2 (by omega) (by omega)
        have p2 : q * E ≤ 18446744073709551615 := by omega
        clear p1
        generalize hp : q * E = p at *
        by_cases hov : d + p ≤ 18446744073709551615
        · have hd : dl d p = d + p := by unfold dl; rw [if_neg (by omega)]
          rw [hd]
          go_enter Try.func19, Try.ntmps19
          go_wp2_with (go_at_call 22; refine HV.out.mono ?_; rintro e w1 ⟨rfl, k1, hg⟩; have K1 := Lib.hid k1; have G1 := Lib.hid hg; clear hg; obtain ⟨u0, u1, u2, u3, u4, y0, y1, y2, z3, z4⟩ := k1.cells; clear k1)
          go_quiet (fail)
          go_wp2_with fail
          all_goals
            go_ret
            go_tidy
            exact ⟨ret_int (by omega), K1.out.drewN _, grown_drewN G1.out _⟩
        · have hd : dl d p = 18446744073709551615 := by unfold dl; rw [if_pos (by omega)]
          rw [hd, if_pos n1]
          obtain ⟨r, hr1, hr2⟩ : ∃ r, IntKind.u64.wrap (d + p) = r ∧ r < d := ⟨_, rfl, by rw [IntKind.wrap_u64]; omega⟩
          go_enter Try.func19, Try.ntmps19
          go_wp2_with (go_at_call 22; refine HV.out.mono ?_; rintro e w1 ⟨rfl, k1, hg⟩; have K1 := Lib.hid k1; have G1 := Lib.hid hg; clear hg; obtain ⟨u0, u1, u2, u3, u4, y0, y1, y2, z3, z4⟩ := k1.cells; clear k1)
          go_quiet (fail)
          go_wp2_with fail
          go_ret
          go_tidy
          exact ⟨rfl, K1.out.drewN _, grown_drewN G1.out _⟩
      · rw [if_neg hr]
        have br : ((n - v) % M != 0) = true := by simp [hr]
        clear hr
        generalize hq : (n - v) / M = q at *
        have p0 : 0 ≤ (q + 1) * E := Int.mul_nonneg (by omega) (by omega)
        have p1 : (q + 1) * E ≤ 4294967295 * 1048576 := Int.mul_le_mul (by omega) e2 (by omega) (by omega)
        have p2 : (q + 1) * E ≤ 18446744073709551615 := by omega
        clear p1
        generalize hp : (q + 1) * E = p at *
        by_cases hov : d + p ≤ 18446744073709551615
        · have hd : dl d p = d + p := by unfold dl; rw [if_neg (by omega)]
          rw [hd]
          go_enter Try.func19, Try.ntmps19
          go_wp2_with (go_at_call 22; refine HV.out.mono ?_; rintro e w1 ⟨rfl, k1, hg⟩; have K1 := Lib.hid k1; have G1 := Lib.hid hg; clear hg; obtain ⟨u0, u1, u2, u3, u4, y0, y1, y2, z3, z4⟩ := k1.cells; clear k1)
          go_quiet (fail)
          go_wp2_with fail
          all_goals
            go_ret
            go_tidy
            exact ⟨ret_int (by omega), K1.out.drewN _, grown_drewN G1.out _⟩
        · have hd : dl d p = 18446744073709551615 := by unfold dl; rw [if_pos (by omega)]
          rw [hd, if_pos n1]
          obtain ⟨r, hr1, hr2⟩ : ∃ r, IntKind.u64.wrap (d + p) = r ∧ r < d := ⟨_, rfl, by rw [IntKind.wrap_u64]; omega⟩
          go_enter Try.func19, Try.ntmps19
          go_wp2_with (go_at_call 22; refine HV.out.mono ?_; rintro e w1 ⟨rfl, k1, hg⟩; have K1 := Lib.hid k1; have G1 := Lib.hid hg; clear hg; obtain ⟨u0, u1, u2, u3, u4, y0, y1, y2, z3, z4⟩ := k1.cells; clear k1)
          go_quiet (fail)
          go_wp2_with fail
          go_ret
          go_tidy
          exact ⟨rfl, K1.out.drewN _, grown_drewN G1.out _⟩

def mayR (M E B : Int) : Bool := decide (1 ≤ M ∧ M ≤ 2147483647 ∧ 1 ≤ E ∧ E ≤ 1048576 ∧ M ≤ B ∧ B ≤ 2147483647)

set_option maxHeartbeats 400000 in
theorem rmay_yes (M E B : Int) (w : World) (r : Rated M E B) : Calls Try.prog 28 #[.int .i64 M, .int .u64 E, .int .i64 B] w fun e w' => e = .returned (.bool true) ∧ w = w' := by
  obtain ⟨m1, m2, e1, e2, b1, b2⟩ := r
  go_enter Try.func28, Try.ntmps28
  go_wp2
  go_ret
  exact ⟨rfl, rfl⟩
set_option maxHeartbeats 1000000 in
theorem rmay_no (M E B : Int) (w : World) (r : ¬ Rated M E B) : Calls Try.prog 28 #[.int .i64 M, .int .u64 E, .int .i64 B] w fun e w' => e = .returned (.bool false) ∧ w = w' := by
  unfold Rated at r
  rcases (show M < 1 ∨ (1 ≤ M ∧ 2147483647 < M) ∨ (1 ≤ M ∧ M ≤ 2147483647 ∧ E < 1) ∨ (1 ≤ M ∧ M ≤ 2147483647 ∧ 1 ≤ E ∧ 1048576 < E) ∨ (1 ≤ M ∧ M ≤ 2147483647 ∧ 1 ≤ E ∧ E ≤ 1048576 ∧ B < M) ∨ (1 ≤ M ∧ M ≤ 2147483647 ∧ 1 ≤ E ∧ E ≤ 1048576 ∧ M ≤ B ∧ 2147483647 < B) by omega)
    with h1 | ⟨h1, h2⟩ | ⟨h1, h2, h3⟩ | ⟨h1, h2, h3, h4⟩ | ⟨h1, h2, h3, h4, h5⟩ | ⟨h1, h2, h3, h4, h5, h6⟩
  all_goals
    clear r
    go_enter Try.func28, Try.ntmps28
    go_wp2
    go_ret
    first | exact ⟨rfl, rfl⟩ | exact ⟨ret_bool (by simp; omega), rfl⟩

theorem Rk.set_ {w : World} {g : Nat} {M E B h c : Int} (k : Rk w g M E B h c) (M' E' B' h' : Int) :
    Rk ((((w.setCell ⟨g, 0, none⟩ (.int .i64 M')).setCell ⟨g, 2, none⟩ (.int .u64 E')).setCell ⟨g, 1, none⟩ (.int .i64 B')).setCell ⟨g, 3, none⟩ (.int .i64 h')) g M' E' B' h' c ∧
    w.grownBy ((((w.setCell ⟨g, 0, none⟩ (.int .i64 M')).setCell ⟨g, 2, none⟩ (.int .u64 E')).setCell ⟨g, 1, none⟩ (.int .i64 B')).setCell ⟨g, 3, none⟩ (.int .i64 h')) (some g) := by
  unfold Rk at *
  constructor
  · simp [World.setCell, Array.getElem?_modify, k]
  · refine ⟨rfl, rfl, rfl, by simp [World.setCell], fun i hi hne => ?_⟩
    have hne' : ¬ g = i := fun e => hne (by rw [e])
    simp [World.setCell, Array.getElem?_modify, hne']

set_option maxHeartbeats 1000000 in
theorem rset_no (g : Nat) (now M' E' B' : Int) (w : World) (r : ¬ Rated M' E' B') :
    Calls Try.prog 21 #[.pointer (some ⟨g, 0, none⟩), .int .u64 now, .int .i64 M', .int .u64 E', .int .i64 B'] w fun e w' => e = .returned (.int .i64 80) ∧ w = w' := by
  have R := Lib.hid r; clear r
  go_enter Try.func21, Try.ntmps21
  go_wp2_with (go_at_call 28; refine (rmay_no M' E' B' _ R.out).mono ?_; rintro e w' ⟨rfl, rfl⟩)
  go_ret
  exact ⟨rfl, rfl⟩

set_option maxHeartbeats 1000000 in
theorem rset_yes (g : Nat) (M E B h c now M' E' B' : Int) (w : World) (k : Rk w g M E B h c) (f : Fits M E B h c) (r : Rated M' E' B') (n0 : 0 ≤ now) (n1 : now ≤ 18446744073709551615) :
    Calls Try.prog 21 #[.pointer (some ⟨g, 0, none⟩), .int .u64 now, .int .i64 M', .int .u64 E', .int .i64 B'] w fun e w' => e = .returned (.int .i64 0) ∧
      Rk w' g M' E' B' (if cH M E B h c now ≤ B' then cH M E B h c now else B') (cC E c now) ∧ w.grownBy w' (some g) := by
  have R := Lib.hid r; clear r
  have HV := Lib.hid (rcomes_any g M E B h c now w k f n0 n1)
  clear f k
  generalize cH M E B h c now = v at *
  generalize cC E c now = d at *
  by_cases hm : v ≤ B'
  all_goals
    first | rw [if_pos hm] | rw [if_neg hm]
    go_enter Try.func21, Try.ntmps21
    go_wp2_with (first
      | (go_at_call 28; refine (rmay_yes M' E' B' _ R.out).mono ?_; rintro e w' ⟨rfl, rfl⟩)
      | (go_at_call 22; refine HV.out.mono ?_; rintro e w1 ⟨rfl, k1, hg⟩; have K1 := Lib.hid k1; have G1 := Lib.hid hg; clear hg; obtain ⟨u0, u1, u2, u3, u4, z0, z1, z2, z3, z4⟩ := k1.cells; clear k1))
    go_ret
    exact ⟨rfl, (K1.out.set_ _ _ _ _).1, grown_trans G1.out (K1.out.set_ _ _ _ _).2⟩

set_option maxHeartbeats 1000000 in
theorem rnew_yes (M E B now : Int) (w : World) (r : Rated M E B) :
    Calls Try.prog 16 #[.int .i64 M, .int .u64 E, .int .i64 B, .int .u64 now] w fun e w' => e = .returned (.tuple #[.agg #[.int .i64 M, .int .i64 B, .int .u64 E, .int .i64 B, .int .u64 now], .int .i64 0]) ∧ Below w.heap.size w w' := by
  have R := Lib.hid r; clear r
  go_enter Try.func16, Try.ntmps16
  go_wp2_with (go_at_call 28; refine (rmay_yes M E B _ R.out).mono ?_; rintro e w' ⟨rfl, rfl⟩)
  refine bodyPost_ret (v := .tuple #[.agg #[.int .i64 M, .int .i64 B, .int .u64 E, .int .i64 B, .int .u64 now], .int .i64 0]) (by simp [results, Try.results16, go_sem]) rfl ⟨rfl, ?_⟩
  repeat (first | exact Below.refl _ _ | refine Below.setCell ?_ (by simp) _ | refine Below.alloc ?_ (by simp) _)
set_option maxHeartbeats 1000000 in
theorem rnew_no (M E B now : Int) (w : World) (r : ¬ Rated M E B) :
    Calls Try.prog 16 #[.int .i64 M, .int .u64 E, .int .i64 B, .int .u64 now] w fun e w' => e = .returned (.tuple #[.agg #[.int .i64 0, .int .i64 0, .int .u64 0, .int .i64 0, .int .u64 0], .int .i64 80]) ∧ Below w.heap.size w w' := by
  have R := Lib.hid r; clear r
  go_enter Try.func16, Try.ntmps16
  go_wp2_with (go_at_call 28; refine (rmay_no M E B _ R.out).mono ?_; rintro e w' ⟨rfl, rfl⟩)
  refine bodyPost_ret (v := .tuple #[.agg #[.int .i64 0, .int .i64 0, .int .u64 0, .int .i64 0, .int .u64 0], .int .i64 80]) (by simp [results, Try.results16, go_sem]) rfl ⟨rfl, ?_⟩
  repeat (first | exact Below.refl _ _ | refine Below.setCell ?_ (by simp) _ | refine Below.alloc ?_ (by simp) _)
end Go.Proofs.Ytgnamdncoidcnaa
