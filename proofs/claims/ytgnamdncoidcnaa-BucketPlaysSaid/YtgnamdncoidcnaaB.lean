/- Contracts of none, Have, Take, Borrow, Check, New. -/
import Derived.Test.YtgnamdncoidcnaaA
namespace Go.Proofs.Ytgnamdncoidcnaa
open Go.RowKit
set_option linter.unusedSimpArgs false
set_option linter.unusedVariables false

theorem cH_bd (M E B h c now : Int) (f : Fits M E B h c) (n1 : now ≤ 18446744073709551615) : h ≤ cH M E B h c now ∧ cH M E B h c now ≤ B ∧ c ≤ cC E c now ∧ (now ≤ c ∧ cC E c now = c ∨ cC E c now ≤ now) := by
  by_cases hn : now ≤ c
  · unfold cH cC; rw [if_pos hn, if_pos hn]; exact ⟨Int.le_refl _, f.h2, Int.le_refl _, .inl ⟨hn, rfl⟩⟩
  · obtain ⟨t, m, q, ht, hm, hq, t0, m0, m1', t1, q0, q1, hr⟩ := comes_nums M E B h c now f (by omega) n1
    rw [cH_new M E B h c now t (by omega) ht, cC_new E c now t (by omega) ht, hm]
    have h2 := f.h2
    have : 0 ≤ t * M := Int.mul_nonneg t0 (by have := f.m1; omega)
    refine ⟨?_, ?_, by omega, by omega⟩ <;> split <;> omega

theorem Fits.comes {M E B h c now : Int} (f : Fits M E B h c) (n1 : now ≤ 18446744073709551615) : Fits M E B (cH M E B h c now) (cC E c now) := by
  obtain ⟨x1, x2, x3, x4⟩ := cH_bd M E B h c now f n1
  obtain ⟨m1, m2, e1, e2, b1, b2, h1, h2, c1, c2⟩ := f
  exact ⟨m1, m2, e1, e2, b1, b2, by omega, x2, by omega, by omega⟩

theorem grown_refl (w : World) (r : Option Nat) : w.grownBy w r := ⟨rfl, rfl, rfl, Nat.le_refl _, fun _ _ _ => rfl⟩
theorem grown_trans {a b c : World} {r : Option Nat} (h : a.grownBy b r) (k : b.grownBy c r) : a.grownBy c r :=
  ⟨k.os.trans h.os, k.tape.trans h.tape, k.output.trans h.output, Nat.le_trans h.size k.size, fun i hi hne => (k.block i (Nat.lt_of_lt_of_le hi h.size) hne).trans (h.block i hi hne)⟩

theorem comes_any (g : Nat) (M E B h c now : Int) (w : World) (k : Bk w g M E B h c) (f : Fits M E B h c) (n0 : 0 ≤ now) (n1 : now ≤ 18446744073709551615) :
    Calls Try.prog 25 #[.pointer (some ⟨g, 0, none⟩), .int .u64 now] w fun e w' => e = .returned (.tuple #[]) ∧ Bk w' g M E B (cH M E B h c now) (cC E c now) ∧ w.grownBy w' (some g) := by
  by_cases hn : now ≤ c
  · refine (comes_old g M E B h c now w k f n0 hn).mono ?_
    rintro e w' ⟨rfl, rfl⟩
    have e1 : cH M E B h c now = h := by unfold cH; rw [if_pos hn]
    have e2 : cC E c now = c := by unfold cC; rw [if_pos hn]
    rw [e1, e2]
    exact ⟨rfl, k, grown_refl _ _⟩
  · exact comes_new g M E B h c now w k f (by omega) n1

set_option maxHeartbeats 400000 in
theorem none_some (g : Nat) (M E B h c : Int) (w : World) (k : Bk w g M E B h c) (f : Fits M E B h c) :
    Calls Try.prog 24 #[.pointer (some ⟨g, 0, none⟩)] w fun e w' => e = .returned (.bool false) ∧ w = w' := by
  obtain ⟨k0, k1, k2, k3, k4, z3, z4⟩ := k.cells
  have e1 : (E == 0) = false := by have := f.e1; simp; omega
  clear k f
  go_enter Try.func24, Try.ntmps24
  go_wp2
  go_ret
  exact ⟨rfl, rfl⟩

set_option maxHeartbeats 400000 in
theorem none_nil (w : World) :
    Calls Try.prog 24 #[.pointer none] w fun e w' => e = .returned (.bool true) ∧ w = w' := by
  go_enter Try.func24, Try.ntmps24
  go_wp2
  go_ret
  exact ⟨rfl, rfl⟩

set_option maxHeartbeats 400000 in
theorem have_any (g : Nat) (M E B h c now : Int) (w : World) (k : Bk w g M E B h c) (f : Fits M E B h c) (n0 : 0 ≤ now) (n1 : now ≤ 18446744073709551615) :
    Calls Try.prog 12 #[.pointer (some ⟨g, 0, none⟩), .int .u64 now] w fun e w' => e = .returned (.int .i64 (cH M E B h c now)) ∧ Bk w' g M E B (cH M E B h c now) (cC E c now) ∧ w.grownBy w' (some g) := by
  have K := Lib.hid k; clear k
  go_enter Try.func12, Try.ntmps12
  go_wp2_with (first
    | (go_at_call 24; refine (none_some g M E B h c _ K.out f).mono ?_; rintro e w' ⟨rfl, rfl⟩)
    | (go_at_call 25; refine (comes_any g M E B h c now _ K.out f n0 n1).mono ?_; rintro e w1 ⟨rfl, k1, hg⟩; have K1 := Lib.hid k1; have G1 := Lib.hid hg; clear hg; obtain ⟨q0, q1, q2, q3, q4, z3, z4⟩ := k1.cells; clear k1))
  go_ret
  exact ⟨rfl, K1.out, G1.out⟩

def tk (h n : Int) : Int := if n < 1 ∨ h < 1 then 0 else if n ≤ h then n else h

theorem Bk.have_ {w : World} {g : Nat} {M E B h c : Int} (k : Bk w g M E B h c) (h' : Int) :
    Bk (w.setCell ⟨g, 3, none⟩ (.int .i64 h')) g M E B h' c ∧ w.grownBy (w.setCell ⟨g, 3, none⟩ (.int .i64 h')) (some g) := by
  unfold Bk at *
  constructor
  · simp [World.setCell, Array.getElem?_modify, k]
  · refine ⟨rfl, rfl, rfl, by simp [World.setCell], fun i hi hne => ?_⟩
    have hne' : ¬ g = i := fun e => hne (by rw [e])
    simp [World.setCell, Array.getElem?_modify, hne']

set_option maxHeartbeats 400000 in
theorem take_any (g : Nat) (M E B h c now n : Int) (w : World) (k : Bk w g M E B h c) (f : Fits M E B h c) (n0 : 0 ≤ now) (n1 : now ≤ 18446744073709551615) :
    Calls Try.prog 11 #[.pointer (some ⟨g, 0, none⟩), .int .u64 now, .int .i64 n] w fun e w' => e = .returned (.int .i64 (tk (cH M E B h c now) n)) ∧
      Bk w' g M E B (cH M E B h c now - tk (cH M E B h c now) n) (cC E c now) ∧ w.grownBy w' (some g) := by
  have K := Lib.hid k; clear k
  obtain ⟨x1, x2, x3, x4⟩ := cH_bd M E B h c now f n1
  have HV := Lib.hid (have_any g M E B h c now w K.out f n0 n1)
  obtain ⟨m1, m2, e1, e2, b1, b2, h1, h2, c1, c2⟩ := f
  generalize cH M E B h c now = v at *
  generalize cC E c now = d at *
  clear x4
  by_cases hn : n < 1 ∨ v < 1
  · have ht : tk v n = 0 := by unfold tk; rw [if_pos hn]
    rw [ht, Int.sub_zero]
    by_cases hm : n ≤ v
    all_goals
      go_enter Try.func11, Try.ntmps11
      go_wp2_with (go_at_call 12; refine HV.out.mono ?_; rintro e w1 ⟨rfl, k1, hg⟩; have K1 := Lib.hid k1; have G1 := Lib.hid hg; clear hg k1)
      go_ret
      exact ⟨rfl, K1.out, G1.out⟩
  · by_cases hm : n ≤ v
    · have ht : tk v n = n := by unfold tk; rw [if_neg hn, if_pos hm]
      rw [ht]
      have hn1 : 1 ≤ n := by omega
      go_enter Try.func11, Try.ntmps11
      go_wp2_with (go_at_call 12; refine HV.out.mono ?_; rintro e w1 ⟨rfl, k1, hg⟩; have K1 := Lib.hid k1; have G1 := Lib.hid hg; clear hg; obtain ⟨q0, q1, q2, q3, q4, z3, z4⟩ := k1.cells; clear k1)
      go_ret
      exact ⟨rfl, (K1.out.have_ _).1, grown_trans G1.out (K1.out.have_ _).2⟩
    · have ht : tk v n = v := by unfold tk; rw [if_neg hn, if_neg hm]
      rw [ht]
      have hn1 : 1 ≤ v := by omega
      go_enter Try.func11, Try.ntmps11
      go_wp2_with (go_at_call 12; refine HV.out.mono ?_; rintro e w1 ⟨rfl, k1, hg⟩; have K1 := Lib.hid k1; have G1 := Lib.hid hg; clear hg; obtain ⟨q0, q1, q2, q3, q4, z3, z4⟩ := k1.cells; clear k1)
      go_ret
      rw [Int.sub_self]
      exact ⟨rfl, (K1.out.have_ _).1, grown_trans G1.out (K1.out.have_ _).2⟩
end Go.Proofs.Ytgnamdncoidcnaa
