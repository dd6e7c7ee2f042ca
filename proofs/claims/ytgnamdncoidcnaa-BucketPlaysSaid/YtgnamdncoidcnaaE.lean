/- Contracts of When and of what it calls. -/
import Derived.Test.YtgnamdncoidcnaaD
namespace Go.Proofs.Ytgnamdncoidcnaa
open Go.RowKit
set_option linter.unusedSimpArgs false
set_option linter.unusedVariables false

def dl (now after : Int) : Int := if after > 18446744073709551615 - now then 18446744073709551615 else now + after

set_option maxHeartbeats 400000 in
theorem deadline_any (now after : Int) (w : World) (h0 : 0 ≤ now) (h1 : now ≤ 18446744073709551615) (h2 : 0 ≤ after) (h3 : after ≤ 18446744073709551615) :
    Calls Try.prog 27 #[.int .u64 now, .int .u64 after] w fun e w' => e = .returned (.int .u64 (dl now after)) ∧ w' = w := by
  unfold dl
  go_enter Try.func27, Try.ntmps27
  go_wp2
  all_goals (go_ret; exact ⟨rfl, rfl⟩)

set_option maxHeartbeats 400000 in
theorem times_any (g bx : Nat) (M E B h c tok : Int) (w : World) (k : Bk w g M E B h c) (hb : w.cell? ⟨bx, 0, none⟩ = some (.pointer (some ⟨g, 0, none⟩))) (m1 : 1 ≤ M) (m2 : M ≤ 2147483647) (t0 : 0 ≤ tok) (t1 : tok ≤ 4294967296) :
    Calls Try.prog 26 #[.int .i64 tok, .pointer (some ⟨bx, 0, none⟩)] w fun e w' => e = .returned (.int .u64 ((tok + M - 1) / M)) ∧ ∃ n, w' = w.drewN n := by
  obtain ⟨k0, k1, k2, k3, k4, z3, z4⟩ := k.cells
  clear k
  have q0 : 0 ≤ (tok + M - 1) / M := Int.ediv_nonneg (by omega) (by omega)
  have q1 : (tok + M - 1) / M ≤ tok + M - 1 := Int.ediv_le_self _ (by omega)
  go_enter Try.func26, Try.ntmps26
  go_wp2
  go_quiet (fail)
  go_wp2
  go_ret
  exact ⟨rfl, _, rfl⟩

def whenV (M E B v d now n : Int) : Int := if n ≤ v then now else if B < n then 18446744073709551615 else if now ≤ dl d ((n - v + M - 1) / M * E) then dl d ((n - v + M - 1) / M * E) else now

theorem box_cell {w w1 : World} {g : Nat} {v : Value} {t : TypeId} (hg : (w.alloc (.cells #[v] t)).grownBy w1 (some g)) (hlt : g < w.heap.size) : w1.cell? ⟨w.heap.size, 0, none⟩ = some v := by
  have h0 : (w.alloc (.cells #[v] t)).heap[w.heap.size]? = some (.cells #[v] t (0, 0)) := by show (w.heap.push _)[w.heap.size]? = _; simp
  have h1 := (hg.block w.heap.size (by simp) (fun e => by injection e; omega)).trans h0
  simp [World.cell?, h1]
theorem grown_alloc (w : World) (o : Obj) (r : Option Nat) : w.grownBy (w.alloc o) r := ⟨rfl, rfl, rfl, by simp, fun i hi _ => Below.heap_alloc w o i hi⟩
theorem Bk.alloc {w : World} {g : Nat} {M E B h c : Int} (k : Bk w g M E B h c) (o : Obj) : Bk (w.alloc o) g M E B h c := (Below.heap_alloc w o g k.lt).trans k
theorem Bk.drewN {w : World} {g : Nat} {M E B h c : Int} (k : Bk w g M E B h c) (n : Nat) : Bk (w.drewN n) g M E B h c := k
theorem grown_drewN {w w' : World} {r : Option Nat} (h : w.grownBy w' r) (n : Nat) : w.grownBy (w'.drewN n) r := ⟨h.os, h.tape, h.output, h.size, h.block⟩
theorem dl_bd (now after : Int) (h0 : 0 ≤ now) (h1 : now ≤ 18446744073709551615) (h2 : 0 ≤ after) : now ≤ dl now after ∧ dl now after ≤ 18446744073709551615 := by
  unfold dl; split <;> omega

set_option maxHeartbeats 1000000 in
theorem when_any (g : Nat) (M E B h c now n : Int) (w : World) (k : Bk w g M E B h c) (f : Fits M E B h c) (n0 : 0 ≤ now) (n1 : now ≤ 18446744073709551615) :
    Calls Try.prog 13 #[.pointer (some ⟨g, 0, none⟩), .int .u64 now, .int .i64 n] w fun e w' => e = .returned (.int .u64 (whenV M E B (cH M E B h c now) (cC E c now) now n)) ∧
      Bk w' g M E B (cH M E B h c now) (cC E c now) ∧ w.grownBy w' (some g) := by
  have hlt := k.lt
  have f2 := f.comes n1
  have HV := Lib.hid (comes_any g M E B h c now (w.alloc (.cells #[.pointer (some ⟨g, 0, none⟩)] 28)) (k.alloc _) f n0 n1)
  have HN := Lib.hid (none_some g M E B h c (w.alloc (.cells #[.pointer (some ⟨g, 0, none⟩)] 28)) (k.alloc _) f)
  clear f k
  generalize cH M E B h c now = v at *
  generalize cC E c now = d at *
  obtain ⟨m1, m2, e1, e2, b1, b2, h1, h2, c1, c2⟩ := f2
  by_cases hv : n ≤ v
  · have ht : whenV M E B v d now n = now := by unfold whenV; rw [if_pos hv]
    rw [ht]; clear ht
    go_enter Try.func13, Try.ntmps13
    go_wp2_with fail
    refine HN.out.mono ?_
    rintro e w' ⟨rfl, rfl⟩
    go_wp2_with fail
    refine HV.out.mono ?_
    rintro e w1 ⟨rfl, k1, hg⟩
    have K1 := Lib.hid k1; have G1 := Lib.hid hg
    have hx := box_cell hg hlt
    clear hg
    obtain ⟨q0, q1, q2, q3, q4, z3, z4⟩ := k1.cells; clear k1
    go_wp2_with fail
    go_ret
    exact ⟨rfl, K1.out, grown_trans (grown_alloc _ _ _) G1.out⟩
  · by_cases hB : B < n
    · have ht : whenV M E B v d now n = 18446744073709551615 := by unfold whenV; rw [if_neg hv, if_pos hB]
      rw [ht]; clear ht
      go_enter Try.func13, Try.ntmps13
      go_wp2_with fail
      refine HN.out.mono ?_
      rintro e w' ⟨rfl, rfl⟩
      go_wp2_with fail
      refine HV.out.mono ?_
      rintro e w1 ⟨rfl, k1, hg⟩
      have K1 := Lib.hid k1; have G1 := Lib.hid hg
      have hx := box_cell hg hlt
      clear hg
      obtain ⟨q0, q1, q2, q3, q4, z3, z4⟩ := k1.cells; clear k1
      go_wp2_with fail
      go_ret
      exact ⟨rfl, K1.out, grown_trans (grown_alloc _ _ _) G1.out⟩
    · have q0 : 0 ≤ (n - v + M - 1) / M := Int.ediv_nonneg (by omega) (by omega)
      have q1 : (n - v + M - 1) / M ≤ n - v + M - 1 := Int.ediv_le_self _ (by omega)
      have hT := whenV M E B v d now n
      have ht : whenV M E B v d now n = if now ≤ dl d ((n - v + M - 1) / M * E) then dl d ((n - v + M - 1) / M * E) else now := by unfold whenV; rw [if_neg hv, if_neg hB]
      rw [ht]; clear ht hT
      generalize hq : (n - v + M - 1) / M = q at *
      have p0 : 0 ≤ q * E := Int.mul_nonneg q0 (by omega)
      have p1 : q * E ≤ 6442450944 * 1048576 := Int.mul_le_mul (by omega) e2 (by omega) (by omega)
      have p2 : q * E ≤ 18446744073709551615 := by omega
      clear p1
      generalize hp : q * E = p at *
      obtain ⟨l0, l1⟩ := dl_bd d p c1 c2 p0
      go_enter Try.func13, Try.ntmps13
      go_wp2_with fail
      refine HN.out.mono ?_
      rintro e w' ⟨rfl, rfl⟩
      go_wp2_with fail
      refine HV.out.mono ?_
      rintro e w1 ⟨rfl, k1, hg⟩
      have K1 := Lib.hid k1; have G1 := Lib.hid hg
      have hx := box_cell hg hlt
      clear hg
      obtain ⟨q0, q1, q2, q3, q4, z3, z4⟩ := k1.cells; clear k1
      go_wp2_with fail
      go_quiet (first | (go_at_call 26; exact Calls.quiet_of (times_any g _ M E B v d _ _ (K1.out.drewN _) hx m1 m2 (by omega) (by omega))) | (go_at_call 27; exact Calls.quiet_of_same (deadline_any _ _ _ c1 c2 p0 p2)))
      go_wp2_with fail
      all_goals
        go_ret
        go_tidy
        exact ⟨ret_int (by omega), K1.out.drewN _, grown_drewN (grown_trans (grown_alloc _ _ _) G1.out) _⟩
end Go.Proofs.Ytgnamdncoidcnaa
