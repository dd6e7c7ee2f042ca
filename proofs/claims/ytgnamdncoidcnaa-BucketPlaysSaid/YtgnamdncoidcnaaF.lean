/- Two buckets of one rate, and the law of When. -/
import Derived.Test.YtgnamdncoidcnaaM
namespace Go.Proofs.Ytgnamdncoidcnaa
open Go.RowKit
set_option linter.unusedSimpArgs false
set_option linter.unusedVariables false

/-- A rate's box and two buckets of it, all of them new since w0. -/
structure Two (w0 W : World) (bx ga gb : Nat) (M E B ha ca hb cb : Int) : Prop where
  r : Rt W bx M E B
  a : Bk W ga M E B ha ca
  b : Bk W gb M E B hb cb
  o1 : w0.heap.size ≤ bx
  o2 : bx < ga
  o3 : ga < gb
  bel : Below w0.heap.size w0 W

section
variable {w0 W W' : World} {bx ga gb : Nat} {M E B ha ca hb cb : Int}
theorem Two.onA (t : Two w0 W bx ga gb M E B ha ca hb cb) {h c : Int} (k : Bk W' ga M E B h c) (g : W.grownBy W' (some ga)) : Two w0 W' bx ga gb M E B h c hb cb :=
  ⟨t.r.grown g (by have := t.o2; omega), k, t.b.grown g (by have := t.o3; omega), t.o1, t.o2, t.o3, t.bel.grown g t.bel.size (fun k e => by cases e; have := t.o1; have := t.o2; omega)⟩
theorem Two.onB (t : Two w0 W bx ga gb M E B ha ca hb cb) {h c : Int} (k : Bk W' gb M E B h c) (g : W.grownBy W' (some gb)) : Two w0 W' bx ga gb M E B ha ca h c :=
  ⟨t.r.grown g (by have := t.o2; have := t.o3; omega), t.a.grown g (by have := t.o3; omega), k, t.o1, t.o2, t.o3, t.bel.grown g t.bel.size (fun k e => by cases e; have := t.o1; have := t.o2; have := t.o3; omega)⟩
end

/-- Behind alive and two New's. -/
theorem Two.start {w w1 w2 w3 : World} {ga gb : Nat} {M E B now : Int} (h1 : Below (w.alloc (.cells #[.int .i64 M, .int .u64 E, .int .i64 B] 24)).heap.size (w.alloc (.cells #[.int .i64 M, .int .u64 E, .int .i64 B] 24)) w1)
    (hga : w1.heap.size ≤ ga) (ka : Bk w2 ga M E B B now) (h2 : Below w1.heap.size w1 w2) (hgb : w2.heap.size ≤ gb) (kb : Bk w3 gb M E B B now) (h3 : Below w2.heap.size w2 w3) : Two w w3 w.heap.size ga gb M E B B now B now := by
  have s1 := h1.size; have s2 := h2.size; have s3 := h3.size
  have r1 := (Rt.new w M E B).below h1 (by simp)
  simp at s1
  have la := ka.lt
  refine ⟨(r1.below h2 (by omega)).below h3 (by omega), ka.below h3 la, kb, Nat.le_refl _, by omega, by omega, ?_⟩
  exact ((((Below.refl _ _).alloc (Nat.le_refl _) _).trans (h1.mono (by simp))).trans (h2.mono (by omega))).trans (h3.mono (by omega))

theorem two_no {w w1 w2 w3 : World} {o : Obj} (h1 : Below (w.alloc o).heap.size (w.alloc o) w1) (h2 : Below w1.heap.size w1 w2) (h3 : Below w2.heap.size w2 w3) : Below w.heap.size w w3 := by
  have s1 := h1.size; have s2 := h2.size
  simp at s1
  exact ((((Below.refl _ _).alloc (Nat.le_refl _) _).trans (h1.mono (by simp))).trans (h2.mono (by omega))).trans (h3.mono (by omega))

theorem boH_bd (h n : Int) (h1 : -2147483647 ≤ h) : -2147483647 ≤ boH h n ∧ boH h n ≤ h := by
  unfold boH; split <;> omega

set_option maxHeartbeats 4000000 in
set_option maxRecDepth 100000 in
theorem when_walk (M E B bo now n : Int) (w : World) (w1 : (Lit.int .i64 M).wf = true) (w2 : (Lit.int .u64 E).wf = true) (w3 : (Lit.int .i64 B).wf = true) (w4 : (Lit.int .i64 bo).wf = true) (w5 : (Lit.int .u64 now).wf = true) (w6 : (Lit.int .i64 n).wf = true) :
    Calls Try.prog 6 #[.agg #[.int .i64 M, .int .u64 E, .int .i64 B], .int .i64 bo, .int .u64 now, .int .i64 n] w fun e w' => e = .returned (.bool true) ∧ Below w.heap.size w w' := by
  obtain ⟨t0, t1⟩ := bd_u64 w5
  obtain ⟨n0, n1⟩ := bd_i64 w6
  clear w1 w2 w3 w4 w5 w6
  have HA := Lib.hid (Rt.new w M E B)
  by_cases r : Rated M E B
  · have R := Lib.hid r; clear r
    have fx : ∀ h c, -2147483647 ≤ h → h ≤ B → 0 ≤ c → c ≤ 18446744073709551615 → Fits M E B h c := fun h c p1 p2 p3 p4 => R.out.fits h c p1 p2 p3 p4
    have FX := Lib.hid fx; clear fx
    have BB := Lib.hid (show 1 ≤ B ∧ B ≤ 2147483647 by have := R.out; unfold Rated at this; omega)
    obtain ⟨B1, B2⟩ := BB.out
    obtain ⟨bo0, bo1⟩ := boH_bd B bo (by omega)
    have x0 : 0 ≤ now % 1099511627776 := by omega
    have x1 : now % 1099511627776 < 1099511627776 := by omega
    generalize hx : now % 1099511627776 = x at *
    have WM := Lib.hid (fun hn : n ≤ B => when_math M E B (boH B bo) x n R.out bo0 bo1 x0 x1 hn)
    have HH := Lib.hid (cH_bd M E B (boH B bo) 0 x (FX.out _ _ bo0 bo1 (by omega) (by omega)) (by omega))
    have E1 := Lib.hid (show cH M E B B 0 0 = B ∧ cC E 0 0 = 0 by unfold cH cC; simp)
    go_enter Try.func6, Try.ntmps6
    go_wp2_with fail
    refine (alive_any _).mono ?_
    rintro e w1 ⟨rfl, hb⟩
    have r1 := HA.out.below hb (by simp)
    have HB := Lib.hid hb; clear hb
    have R1 := Lib.hid r1
    obtain ⟨c0, c1, c2⟩ := r1.cells
    clear r1
    go_wp2_with fail
    refine (new_yes M E B 0 _ R.out).mono ?_
    rintro e w2 ⟨ga, rfl, hga, ka, hb2⟩
    have r2 := R1.out.below hb2 (by have := lt_of_block R1.out; omega)
    have HB2 := Lib.hid hb2; have KA := Lib.hid ka; clear hb2 ka
    clear c0 c1 c2
    obtain ⟨c0, c1, c2⟩ := r2.cells
    clear r2
    go_wp2_with fail
    refine (new_yes M E B 0 _ R.out).mono ?_
    rintro e w3 ⟨gb, rfl, hgb, kb, hb3⟩
    have T3 := Two.start HB.out hga KA.out HB2.out hgb kb hb3
    clear hb3 kb c0 c1 c2 HB HB2 KA R1 hga hgb
    go_wp2_with fail
    refine (borrow_any ga M E B B 0 0 bo _ T3.a (FX.out _ _ (by omega) (by omega) (by omega) (by omega)) (by omega) (by omega)).mono ?_
    rintro e w4 ⟨he, k, hg⟩
    rw [E1.out.1] at he k; rw [E1.out.2] at k; subst he
    have T4 := T3.onA k hg
    clear k hg T3
    go_wp2_with fail
    refine (borrow_any gb M E B B 0 0 bo _ T4.b (FX.out _ _ (by omega) (by omega) (by omega) (by omega)) (by omega) (by omega)).mono ?_
    rintro e w5 ⟨he, k, hg⟩
    rw [E1.out.1] at he k; rw [E1.out.2] at k; subst he
    have T5 := T4.onB k hg
    clear k hg T4
    go_wp2_with fail
    refine (when_any ga M E B (boH B bo) 0 x n _ T5.a (FX.out _ _ bo0 bo1 (by omega) (by omega)) (by omega) (by omega)).mono ?_
    rintro e w6 ⟨rfl, k, hg⟩
    have T6 := T5.onA k hg
    clear k hg T5
    obtain ⟨c0, c1, c2⟩ := T6.r.cells
    by_cases hnB : n ≤ B
    · have wm := WM.out hnB
      obtain ⟨hh1, hh2, hh3, hh4⟩ := HH.out
      generalize cH M E B (boH B bo) 0 x = v at *
      generalize cC E 0 x = d at *
      generalize whenV M E B v d x n = at_ at *
      obtain ⟨a1, a2, a3, a4⟩ := wm
      have A3 := Lib.hid a3; have A4 := Lib.hid a4; clear a3 a4
      have b1 : (at_ == 18446744073709551615) = false := by simp; omega
      have hd1 : d ≤ 18446744073709551615 := by omega
      clear hh4
      by_cases hat : at_ = x
      · have b2 : (at_ == x) = true := by simp [hat]
        clear hat
        go_wp2_with fail
        refine (have_any ga M E B v d at_ _ T6.a (FX.out _ _ (by omega) (by omega) (by omega) (by omega)) (by omega) (by omega)).mono ?_
        rintro e w7 ⟨rfl, k, hg⟩
        have T7 := T6.onA k hg
        have a4 := A4.out
        generalize cH M E B v d at_ = u at *
        clear k hg T6
        go_wp2_with fail
        go_ret
        exact ⟨rfl, T7.bel⟩
      · have b2 : (at_ == x) = false := by simp [hat]
        have a3 := A3.out.resolve_left hat
        obtain ⟨a31, a32⟩ := a3
        clear hat A3
        go_wp2_with fail
        refine (have_any gb M E B (boH B bo) 0 (at_ - 1) _ T6.b (FX.out _ _ (by omega) (by omega) (by omega) (by omega)) (by omega) (by omega)).mono ?_
        rintro e w7 ⟨rfl, k, hg⟩
        have T7 := T6.onB k hg
        clear k hg T6
        generalize cH M E B (boH B bo) 0 (at_ - 1) = u1 at *
        go_wp2_with fail
        refine (have_any ga M E B v d at_ _ T7.a (FX.out _ _ (by omega) (by omega) (by omega) (by omega)) (by omega) (by omega)).mono ?_
        rintro e w8 ⟨rfl, k, hg⟩
        have T8 := T7.onA k hg
        have a4 := A4.out
        generalize cH M E B v d at_ = u at *
        clear k hg T7
        go_wp2_with fail
        go_ret
        exact ⟨rfl, T8.bel⟩
    · have hv : whenV M E B (cH M E B (boH B bo) 0 x) (cC E 0 x) x n = 18446744073709551615 := by
        have := HH.out.2.1
        unfold whenV; rw [if_neg (by omega), if_pos (by omega)]
      rw [hv]
      clear hv
      go_wp2_with fail
      go_ret
      exact ⟨rfl, T6.bel⟩
  · have R := Lib.hid r; clear r
    have x0 : 0 ≤ now % 1099511627776 := by omega
    go_enter Try.func6, Try.ntmps6
    go_wp2_with fail
    refine (alive_any _).mono ?_
    rintro e w1 ⟨rfl, hb⟩
    have r1 := HA.out.below hb (by simp)
    have HB := Lib.hid hb; clear hb
    have R1 := Lib.hid r1
    obtain ⟨c0, c1, c2⟩ := r1.cells
    clear r1
    go_wp2_with fail
    refine (new_no M E B 0 _ R.out).mono ?_
    rintro e w2 ⟨rfl, hb2⟩
    have r2 := R1.out.below hb2 (by have := lt_of_block R1.out; omega)
    have HB2 := Lib.hid hb2; clear hb2
    clear c0 c1 c2
    obtain ⟨c0, c1, c2⟩ := r2.cells
    clear r2
    go_wp2_with fail
    refine (new_no M E B 0 _ R.out).mono ?_
    rintro e w3 ⟨rfl, hb3⟩
    have HB3 := Lib.hid hb3; clear hb3 c0 c1 c2
    go_wp2_with fail
    go_ret
    exact ⟨rfl, two_no HB.out HB2.out HB3.out⟩
end Go.Proofs.Ytgnamdncoidcnaa
