/- Contracts of Borrow, Check, New, the chapter's first example. -/
import Derived.Test.YtgnamdncoidcnaaB
namespace Go.Proofs.Ytgnamdncoidcnaa
open Go.RowKit
set_option linter.unusedSimpArgs false
set_option linter.unusedVariables false

def boE (h n : Int) : Int := if n < 0 ∨ 2147483647 < n ∨ h - n < -2147483647 then 2 else 0
def boH (h n : Int) : Int := if n < 0 ∨ 2147483647 < n ∨ h - n < -2147483647 then h else h - n

set_option maxHeartbeats 400000 in
theorem borrow_any (g : Nat) (M E B h c now n : Int) (w : World) (k : Bk w g M E B h c) (f : Fits M E B h c) (n0 : 0 ≤ now) (n1 : now ≤ 18446744073709551615) :
    Calls Try.prog 14 #[.pointer (some ⟨g, 0, none⟩), .int .u64 now, .int .i64 n] w fun e w' => e = .returned (.int .i64 (boE (cH M E B h c now) n)) ∧
      Bk w' g M E B (boH (cH M E B h c now) n) (cC E c now) ∧ w.grownBy w' (some g) := by
  have K := Lib.hid k; clear k
  obtain ⟨x1, x2, x3, x4⟩ := cH_bd M E B h c now f n1
  have HV := Lib.hid (comes_any g M E B h c now w K.out f n0 n1)
  have HN := Lib.hid (none_some g M E B h c w K.out f)
  obtain ⟨m1, m2, e1, e2, b1, b2, h1, h2, c1, c2⟩ := f
  generalize cH M E B h c now = v at *
  generalize cC E c now = d at *
  clear x4
  by_cases hn : n < 0 ∨ 2147483647 < n ∨ v - n < -2147483647
  · have ht : boE v n = 2 ∧ boH v n = v := by unfold boE boH; rw [if_pos hn, if_pos hn]; exact ⟨rfl, rfl⟩
    rw [ht.1, ht.2]
    clear ht
    rcases (show n < 0 ∨ (0 ≤ n ∧ 2147483647 < n) ∨ (0 ≤ n ∧ n ≤ 2147483647 ∧ v - n < -2147483647) by omega) with hn | ⟨hn1, hn⟩ | ⟨hn1, hn2, hn⟩
    all_goals
      go_enter Try.func14, Try.ntmps14
      go_wp2_with (first | (go_at_call 24; refine HN.out.mono ?_; rintro e w' ⟨rfl, rfl⟩) | (go_at_call 25; refine HV.out.mono ?_; rintro e w1 ⟨rfl, k1, hg⟩; have K1 := Lib.hid k1; have G1 := Lib.hid hg; clear hg; obtain ⟨q0, q1, q2, q3, q4, z3, z4⟩ := k1.cells; clear k1))
      go_ret
      exact ⟨rfl, K1.out, G1.out⟩
  · have ht : boE v n = 0 ∧ boH v n = v - n := by unfold boE boH; rw [if_neg hn, if_neg hn]; exact ⟨rfl, rfl⟩
    rw [ht.1, ht.2]
    clear ht
    have a1 : 0 ≤ n := by omega
    have a2 : n ≤ 2147483647 := by omega
    have a3 : -2147483647 ≤ v - n := by omega
    clear hn
    go_enter Try.func14, Try.ntmps14
    go_wp2_with (first | (go_at_call 24; refine HN.out.mono ?_; rintro e w' ⟨rfl, rfl⟩) | (go_at_call 25; refine HV.out.mono ?_; rintro e w1 ⟨rfl, k1, hg⟩; have K1 := Lib.hid k1; have G1 := Lib.hid hg; clear hg; obtain ⟨q0, q1, q2, q3, q4, z3, z4⟩ := k1.cells; clear k1))
    go_ret
    exact ⟨rfl, (K1.out.have_ _).1, grown_trans G1.out (K1.out.have_ _).2⟩

/-- May a rate be? -/
def Rated (M E B : Int) : Prop := 1 ≤ M ∧ M ≤ 2147483647 ∧ 1 ≤ E ∧ E ≤ 1048576 ∧ M ≤ B ∧ B ≤ 2147483647

set_option maxHeartbeats 400000 in
theorem check_yes (M E B : Int) (w : World) (r : Rated M E B) :
    Calls Try.prog 15 #[.agg #[.int .i64 M, .int .u64 E, .int .i64 B]] w fun e w' => e = .returned (.int .i64 0) ∧ Below w.heap.size w w' := by
  obtain ⟨m1, m2, e1, e2, b1, b2⟩ := r
  go_enter Try.func15, Try.ntmps15
  go_wp2
  go_ret
  exact ⟨rfl, (Below.refl _ _).alloc (Nat.le_refl _) _⟩

set_option maxHeartbeats 1000000 in
theorem check_no (M E B : Int) (w : World) (r : ¬ Rated M E B) :
    Calls Try.prog 15 #[.agg #[.int .i64 M, .int .u64 E, .int .i64 B]] w fun e w' => e = .returned (.int .i64 80) ∧ Below w.heap.size w w' := by
  unfold Rated at r
  rcases (show M < 1 ∨ (1 ≤ M ∧ 2147483647 < M) ∨ (1 ≤ M ∧ M ≤ 2147483647 ∧ E < 1) ∨ (1 ≤ M ∧ M ≤ 2147483647 ∧ 1 ≤ E ∧ 1048576 < E) ∨ (1 ≤ M ∧ M ≤ 2147483647 ∧ 1 ≤ E ∧ E ≤ 1048576 ∧ B < M) ∨ (1 ≤ M ∧ M ≤ 2147483647 ∧ 1 ≤ E ∧ E ≤ 1048576 ∧ M ≤ B ∧ 2147483647 < B) by omega)
    with h1 | ⟨h1, h2⟩ | ⟨h1, h2, h3⟩ | ⟨h1, h2, h3, h4⟩ | ⟨h1, h2, h3, h4, h5⟩ | ⟨h1, h2, h3, h4, h5, h6⟩
  all_goals
    clear r
    go_enter Try.func15, Try.ntmps15
    go_wp2
    go_ret
    exact ⟨rfl, (Below.refl _ _).alloc (Nat.le_refl _) _⟩

theorem bcell {W w1 : World} {B : Nat} (hb : Below B W w1) : (∀ b o, b < B → w1.cell? ⟨b, o, none⟩ = W.cell? ⟨b, o, none⟩) :=
  fun b o h => hb.cell (p := ⟨b, o, none⟩) h

set_option maxHeartbeats 1000000 in
theorem new_yes (M E B now : Int) (w : World) (r : Rated M E B) :
    Calls Try.prog 10 #[.agg #[.int .i64 M, .int .u64 E, .int .i64 B], .int .u64 now] w fun e w' => ∃ g, e = .returned (.tuple #[.pointer (some ⟨g, 0, none⟩), .int .i64 0]) ∧ w.heap.size ≤ g ∧ Bk w' g M E B B now ∧ Below w.heap.size w w' := by
  go_enter Try.func10, Try.ntmps10
  go_wp2_with (go_at_call 15; refine (check_yes M E B _ r).mono ?_; rintro e w1 ⟨rfl, hb⟩; have HB := Lib.hid hb; have hc := bcell hb w.heap.size 0 (by simp); have hc1 := bcell hb w.heap.size 1 (by simp); have hc2 := bcell hb w.heap.size 2 (by simp); clear hb)
  go_ret2
  have hb := HB.out
  have hs := hb.size
  simp at hs
  have hw : Below w.heap.size w w1 := ((Below.refl _ _).alloc (Nat.le_refl _) _).trans (hb.mono (by simp))
  refine ⟨w1.heap.size, rfl, by omega, ?_, hw.alloc (by omega) _⟩
  show (w1.heap.push _)[w1.heap.size]? = _
  simp

set_option maxHeartbeats 1000000 in
theorem new_no (M E B now : Int) (w : World) (r : ¬ Rated M E B) :
    Calls Try.prog 10 #[.agg #[.int .i64 M, .int .u64 E, .int .i64 B], .int .u64 now] w fun e w' => e = .returned (.tuple #[.pointer none, .int .i64 80]) ∧ Below w.heap.size w w' := by
  go_enter Try.func10, Try.ntmps10
  go_wp2_with (go_at_call 15; refine (check_no M E B _ r).mono ?_; rintro e w1 ⟨rfl, hb⟩; have HB := Lib.hid hb; clear hb)
  go_ret2
  exact ⟨rfl, ((Below.refl _ _).alloc (Nat.le_refl _) _).trans (HB.out.mono (by simp))⟩

theorem few_any (w : World) : Calls Try.prog 23 #[] w fun e w' => e = .returned (.agg #[.int .i64 3, .int .u64 10, .int .i64 8]) ∧ Below w.heap.size w w' := by
  go_enter Try.func23, Try.ntmps23
  go_wp2
  refine bodyPost_ret (v := .agg #[.int .i64 3, .int .u64 10, .int .i64 8]) (by simp [results, Try.results23, go_sem]) rfl ⟨rfl, ?_⟩
  repeat (first | exact Below.refl _ _ | refine Below.setCell ?_ (by simp) _ | refine Below.alloc ?_ (by simp) _)

theorem rated_few : Rated 3 10 8 := by unfold Rated; omega
theorem fits_few (h c : Int) (h1 : -8 ≤ h) (h2 : h ≤ 8) (c1 : 0 ≤ c) (c2 : c ≤ 1000) : Fits 3 10 8 h c := by constructor <;> omega

set_option maxHeartbeats 1000000 in
theorem alive_any (w : World) : Calls Try.prog 9 #[] w fun e w' => e = .returned (.bool true) ∧ Below w.heap.size w w' := by
  go_enter Try.func9, Try.ntmps9
  go_wp2_with fail
  refine (few_any _).mono ?_
  rintro e w1 ⟨rfl, hb1⟩
  have HB1 := Lib.hid hb1; clear hb1
  go_wp2_with fail
  refine (new_yes 3 10 8 100 _ rated_few).mono ?_
  rintro e w2 ⟨g, rfl, hg, k, hb2⟩
  have HB2 := Lib.hid hb2; have K := Lib.hid k; clear hb2 k
  go_wp2_with fail
  refine (take_any g 3 10 8 8 100 100 10 _ K.out (fits_few _ _ (by omega) (by omega) (by omega) (by omega)) (by omega) (by omega)).mono ?_
  rintro e w3 ⟨rfl, k, hg3⟩
  have e1 : cH 3 10 8 8 100 100 = 8 := by decide
  have e2 : cC 10 100 100 = 100 := by decide
  have e3 : tk 8 10 = 8 := by decide
  rw [e1, e2, e3] at k
  rw [e1, e3]
  have K3 := Lib.hid k; have G3 := Lib.hid hg3; clear hg3 k e1 e2 e3
  go_wp2_with fail
  refine (have_any g 3 10 8 0 100 109 _ K3.out (fits_few _ _ (by omega) (by omega) (by omega) (by omega)) (by omega) (by omega)).mono ?_
  rintro e w4 ⟨rfl, k, hg4⟩
  have e1 : cH 3 10 8 0 100 109 = 0 := by decide
  have e2 : cC 10 100 109 = 100 := by decide
  rw [e1, e2] at k
  rw [e1]
  have K4 := Lib.hid k; have G4 := Lib.hid hg4; clear hg4 k e1 e2
  go_wp2_with fail
  refine (have_any g 3 10 8 0 100 110 _ K4.out (fits_few _ _ (by omega) (by omega) (by omega) (by omega)) (by omega) (by omega)).mono ?_
  rintro e w5 ⟨rfl, k, hg5⟩
  have e1 : cH 3 10 8 0 100 110 = 3 := by decide
  have e2 : cC 10 100 110 = 110 := by decide
  rw [e1, e2] at k
  rw [e1]
  have K5 := Lib.hid k; have G5 := Lib.hid hg5; clear hg5 k e1 e2
  go_wp2_with fail
  refine (have_any g 3 10 8 3 110 125 _ K5.out (fits_few _ _ (by omega) (by omega) (by omega) (by omega)) (by omega) (by omega)).mono ?_
  rintro e w6 ⟨rfl, k, hg6⟩
  have e1 : cH 3 10 8 3 110 125 = 6 := by decide
  rw [e1]
  have G6 := Lib.hid hg6; clear hg6 k e1
  go_wp2_with fail
  go_ret
  refine ⟨rfl, ?_⟩
  have b1 := HB1.out
  have b2 := HB2.out
  have hs1 := b1.size
  have hs2 := b2.size
  have b3 : Below w.heap.size w w2 := b1.trans (b2.mono hs1)
  have b6 : w2.grownBy w6 (some g) := grown_trans (grown_trans (grown_trans G3.out G4.out) G5.out) G6.out
  exact b3.grown b6 (by omega) (fun k e => by cases e; omega)
end Go.Proofs.Ytgnamdncoidcnaa
