/- A bucket in memory; the contract of comes. -/
import Derived.Test.YtgnamdncoidcnaaBase
import Derived.StillTailTactics
import Derived.Laws.AppendOwn
import Derived.Deep.RegionHeld3
import Derived.BigRegion
namespace Go.Proofs.Ytgnamdncoidcnaa
open Go.RowKit
set_option linter.unusedSimpArgs false
set_option linter.unusedVariables false

/-- Block g is a bucket. -/
def Bk (w : World) (g : Nat) (M E B h c : Int) : Prop := w.heap[g]? = some (.cells #[.int .i64 M, .int .u64 E, .int .i64 B, .int .i64 h, .int .u64 c] 57 (0, 0))

def cH (M E B h c now : Int) : Int := if now ≤ c then h else if B ≤ h + (now - c) / E * M then B else h + (now - c) / E * M
def cC (E c now : Int) : Int := if now ≤ c then c else c + (now - c) / E * E

theorem Bk.cells {w : World} {g : Nat} {M E B h c : Int} (k : Bk w g M E B h c) :
    w.cell? ⟨g, 0, none⟩ = some (.int .i64 M) ∧ w.cell? ⟨g, 1, none⟩ = some (.int .u64 E) ∧ w.cell? ⟨g, 2, none⟩ = some (.int .i64 B) ∧ w.cell? ⟨g, 3, none⟩ = some (.int .i64 h) ∧ w.cell? ⟨g, 4, none⟩ = some (.int .u64 c) ∧
    w.frozen? ⟨g, 3, none⟩ = false ∧ w.frozen? ⟨g, 4, none⟩ = false := by
  unfold Bk at k
  simp [World.cell?, World.frozen?, k]

/-- A rate that may be, and what a bucket of it holds. -/
structure Fits (M E B h c : Int) : Prop where
  m1 : 1 ≤ M
  m2 : M ≤ 2147483647
  e1 : 1 ≤ E
  e2 : E ≤ 1048576
  b1 : M ≤ B
  b2 : B ≤ 2147483647
  h1 : -2147483647 ≤ h
  h2 : h ≤ B
  c1 : 0 ≤ c
  c2 : c ≤ 18446744073709551615

set_option maxHeartbeats 1000000 in
theorem comes_old (g : Nat) (M E B h c now : Int) (w : World) (k : Bk w g M E B h c) (f : Fits M E B h c) (n0 : 0 ≤ now) (n1 : now ≤ c) :
    Calls Try.prog 25 #[.pointer (some ⟨g, 0, none⟩), .int .u64 now] w fun e w' => e = .returned (.tuple #[]) ∧ w = w' := by
  obtain ⟨k0, k1, k2, k3, k4, z3, z4⟩ := k.cells
  have hK := Lib.hid k; clear k
  go_enter Try.func25, Try.ntmps25
  go_wp2
  refine bodyPost_ret (results_none rfl _ _ _) rfl ?_
  exact ⟨rfl, rfl⟩

/-- The plain numbers of comes. -/
theorem comes_nums (M E B h c now : Int) (f : Fits M E B h c) (n0 : c < now) (n1 : now ≤ 18446744073709551615) :
    ∃ t m q : Int, (now - c) / E = t ∧ t * E = m ∧ (B - h) / M = q ∧ 0 ≤ t ∧ 0 ≤ m ∧ m ≤ now - c ∧ t ≤ now - c ∧ 0 ≤ q ∧ q ≤ 4294967294 ∧
      ((t ≤ q + 1 ∧ ∃ p, t * M = p ∧ 0 ≤ p ∧ p ≤ 6442450942) ∨ (q + 1 < t ∧ ∃ p, (q + 1) * M = p ∧ B - h < p ∧ p ≤ 6442450942 ∧ B ≤ h + t * M)) := by
  obtain ⟨m1, m2, e1, e2, b1, b2, h1, h2, c1, c2⟩ := f
  have t0 : 0 ≤ (now - c) / E := Int.ediv_nonneg (by omega) (by omega)
  have t1 : (now - c) / E * E ≤ now - c := Int.ediv_mul_le _ (by omega)
  have t2 : 0 ≤ (now - c) / E * E := Int.mul_nonneg t0 (by omega)
  have t3 : (now - c) / E ≤ now - c := Int.ediv_le_self _ (by omega)
  have q0 : 0 ≤ (B - h) / M := Int.ediv_nonneg (by omega) (by omega)
  have q1 : (B - h) / M * M ≤ B - h := Int.ediv_mul_le _ (by omega)
  have q2 : (B - h) / M ≤ B - h := Int.ediv_le_self _ (by omega)
  have q3 : B - h < ((B - h) / M + 1) * M := Int.lt_ediv_add_one_mul_self _ (by omega)
  refine ⟨_, _, _, rfl, rfl, rfl, t0, t2, t1, t3, q0, by omega, ?_⟩
  generalize (now - c) / E = t at *
  generalize (B - h) / M = q at *
  by_cases hlt : t ≤ q + 1
  · refine .inl ⟨hlt, _, rfl, Int.mul_nonneg t0 (by omega), ?_⟩
    have : t * M ≤ (q + 1) * M := Int.mul_le_mul_of_nonneg_right (by omega) (by omega)
    rw [Int.add_mul] at this
    omega
  · refine .inr ⟨by omega, _, rfl, q3, ?_, ?_⟩
    · rw [Int.add_mul]; omega
    · have : (q + 1) * M ≤ t * M := Int.mul_le_mul_of_nonneg_right (by omega) (by omega)
      omega

theorem Bk.stored {w : World} {g : Nat} {M E B h c : Int} (k : Bk w g M E B h c) (a b : Nat) (h' c' : Int) :
    Bk ((((w.drewN a).setCell ⟨g, 4, none⟩ (.int .u64 c')).drewN b).setCell ⟨g, 3, none⟩ (.int .i64 h')) g M E B h' c' ∧
    w.grownBy ((((w.drewN a).setCell ⟨g, 4, none⟩ (.int .u64 c')).drewN b).setCell ⟨g, 3, none⟩ (.int .i64 h')) (some g) := by
  unfold Bk at *
  constructor
  · simp [World.setCell, World.drewN, Array.getElem?_modify, k]
  · refine ⟨rfl, rfl, rfl, by simp [World.setCell, World.drewN], fun i hi hne => ?_⟩
    have hne' : ¬ g = i := fun e => hne (by rw [e])
    simp [World.setCell, World.drewN, Array.getElem?_modify, hne']

theorem cH_new (M E B h c now t : Int) (n0 : c < now) (ht : (now - c) / E = t) : cH M E B h c now = if B ≤ h + t * M then B else h + t * M := by
  unfold cH; rw [if_neg (by omega), ht]
theorem cC_new (E c now t : Int) (n0 : c < now) (ht : (now - c) / E = t) : cC E c now = c + t * E := by
  unfold cC; rw [if_neg (by omega), ht]

set_option maxHeartbeats 2000000 in
theorem comes_new (g : Nat) (M E B h c now : Int) (w : World) (k : Bk w g M E B h c) (f : Fits M E B h c) (n0 : c < now) (n1 : now ≤ 18446744073709551615) :
    Calls Try.prog 25 #[.pointer (some ⟨g, 0, none⟩), .int .u64 now] w fun e w' => e = .returned (.tuple #[]) ∧ Bk w' g M E B (cH M E B h c now) (cC E c now) ∧ w.grownBy w' (some g) := by
  obtain ⟨k0, k1, k2, k3, k4, z3, z4⟩ := k.cells
  have hK := Lib.hid k; clear k
  obtain ⟨t, m, q, ht, hm, hq, t0, m0, m1', t1, q0, q1, hr⟩ := comes_nums M E B h c now f n0 n1
  obtain ⟨m1, m2, e1, e2, b1, b2, h1, h2, c1, c2⟩ := f
  have HH := Lib.hid (cH_new M E B h c now t n0 ht)
  have HC := Lib.hid (cC_new E c now t n0 ht)
  rcases hr with ⟨hlt, p, hp, p0, p1⟩ | ⟨hge, p, hp, p0, p1, p2⟩
  · by_cases hB : B ≤ h + p
    all_goals
      go_enter Try.func25, Try.ntmps25
      go_wp2
      go_quiet (fail)
      go_wp2
      go_region
      go_wp2
      go_quiet (fail)
      go_wp2
      go_region
      go_wp2
      go_end0
      go_tidy
      rw [HH.out, HC.out, hm, hp]
      first | rw [if_pos hB] | rw [if_neg (by omega)]
      exact ⟨rfl, hK.out.stored _ _ _ _⟩
  · have HP2 := Lib.hid p2; clear p2
    have hpp : 0 ≤ p := by omega
    have hB : B ≤ h + p := by omega
    clear p0
    have hw1 : wrap64 p = p := IntWalk.wrap64_in p (by omega)
    have hw2 : wrap64 (h + p) = h + p := IntWalk.wrap64_in _ (by omega)
    go_enter Try.func25, Try.ntmps25
    go_wp2
    go_quiet (fail)
    go_wp2
    go_region
    go_wp2
    go_quiet (fail)
    go_wp2
    go_region
    go_wp2
    go_end0
    go_tidy
    rw [HH.out, HC.out, hm, if_pos HP2.out]
    exact ⟨rfl, hK.out.stored _ _ _ _⟩
end Go.Proofs.Ytgnamdncoidcnaa
