/- Contracts of Set, and of calls on none. -/
import Derived.Test.YtgnamdncoidcnaaF
namespace Go.Proofs.Ytgnamdncoidcnaa
open Go.RowKit
set_option linter.unusedSimpArgs false
set_option linter.unusedVariables false

theorem grown_of_below {a w : World} (h : Below a.heap.size a w) (row : Option Nat) : a.grownBy w row := ⟨h.os, h.tape, h.output, h.size, fun i hi _ => h.block i hi⟩

set_option maxHeartbeats 400000 in
theorem take_nil (now n : Int) (w : World) (n0 : -9223372036854775808 ≤ n) : Calls Try.prog 11 #[.pointer none, .int .u64 now, .int .i64 n] w fun e w' => e = .returned (.int .i64 0) ∧ w = w' := by
  by_cases hn : n ≤ 0
  all_goals
    go_enter Try.func11, Try.ntmps11
    go_wp2_with (first | (go_at_call 24; refine (none_nil _).mono ?_; rintro e w' ⟨rfl, rfl⟩) | (go_at_call 12; go_in))
    go_ret
    exact ⟨rfl, rfl⟩
set_option maxHeartbeats 400000 in
theorem borrow_nil (now n : Int) (w : World) : Calls Try.prog 14 #[.pointer none, .int .u64 now, .int .i64 n] w fun e w' => e = .returned (.int .i64 1) ∧ w = w' := by
  go_enter Try.func14, Try.ntmps14
  go_wp2_with (go_at_call 24; refine (none_nil _).mono ?_; rintro e w' ⟨rfl, rfl⟩)
  go_ret
  exact ⟨rfl, rfl⟩
set_option maxHeartbeats 400000 in
theorem set_nil (now M E B : Int) (w : World) : Calls Try.prog 20 #[.pointer none, .int .u64 now, .agg #[.int .i64 M, .int .u64 E, .int .i64 B]] w fun e w' => e = .returned (.int .i64 1) ∧ Below w.heap.size w w' := by
  go_enter Try.func20, Try.ntmps20
  go_wp2_with (go_at_call 24; refine (none_nil _).mono ?_; rintro e w' ⟨rfl, rfl⟩)
  go_ret
  exact ⟨rfl, (Below.refl _ _).alloc (Nat.le_refl _) _⟩

set_option maxHeartbeats 1000000 in
theorem set_no (g : Nat) (M E B h c now M' E' B' : Int) (w : World) (k : Bk w g M E B h c) (f : Fits M E B h c) (r : ¬ Rated M' E' B') :
    Calls Try.prog 20 #[.pointer (some ⟨g, 0, none⟩), .int .u64 now, .agg #[.int .i64 M', .int .u64 E', .int .i64 B']] w fun e w' => e = .returned (.int .i64 80) ∧ Bk w' g M E B h c ∧ w.grownBy w' (some g) := by
  have R := Lib.hid r; clear r
  have HN := Lib.hid (none_some g M E B h c (w.alloc (.cells #[.int .i64 M', .int .u64 E', .int .i64 B'] 24)) (k.alloc _) f)
  have K := Lib.hid k; clear k
  go_enter Try.func20, Try.ntmps20
  go_wp2_with fail
  refine HN.out.mono ?_
  rintro e w' ⟨rfl, rfl⟩
  go_wp2_with fail
  refine (check_no M' E' B' _ R.out).mono ?_
  rintro e w1 ⟨rfl, hb⟩
  have HB := Lib.hid hb; clear hb
  go_wp2_with fail
  go_ret
  have hb := HB.out
  exact ⟨rfl, (K.out.alloc _).below hb (by have := K.out.lt; simp; omega), grown_trans (grown_alloc _ _ _) (grown_of_below hb _)⟩

theorem Bk.set_ {w : World} {g : Nat} {M E B h c : Int} (k : Bk w g M E B h c) (M' E' B' h' : Int) :
    Bk ((((w.setCell ⟨g, 0, none⟩ (.int .i64 M')).setCell ⟨g, 1, none⟩ (.int .u64 E')).setCell ⟨g, 2, none⟩ (.int .i64 B')).setCell ⟨g, 3, none⟩ (.int .i64 h')).drew g M' E' B' h' c ∧
    w.grownBy ((((w.setCell ⟨g, 0, none⟩ (.int .i64 M')).setCell ⟨g, 1, none⟩ (.int .u64 E')).setCell ⟨g, 2, none⟩ (.int .i64 B')).setCell ⟨g, 3, none⟩ (.int .i64 h')).drew (some g) := by
  unfold Bk at *
  constructor
  · simp [World.setCell, World.drew, Array.getElem?_modify, k]
  · refine ⟨rfl, rfl, rfl, by simp [World.setCell, World.drew], fun i hi hne => ?_⟩
    have hne' : ¬ g = i := fun e => hne (by rw [e])
    simp [World.setCell, World.drew, Array.getElem?_modify, hne']

set_option maxHeartbeats 1000000 in
theorem set_yes (g : Nat) (M E B h c now M' E' B' : Int) (w : World) (k : Bk w g M E B h c) (f : Fits M E B h c) (r : Rated M' E' B') (n0 : 0 ≤ now) (n1 : now ≤ 18446744073709551615) :
    Calls Try.prog 20 #[.pointer (some ⟨g, 0, none⟩), .int .u64 now, .agg #[.int .i64 M', .int .u64 E', .int .i64 B']] w fun e w' => e = .returned (.int .i64 0) ∧
      Bk w' g M' E' B' (if cH M E B h c now ≤ B' then cH M E B h c now else B') (cC E c now) ∧ w.grownBy w' (some g) := by
  have R := Lib.hid r; clear r
  have hlt := k.lt
  have HN := Lib.hid (none_some g M E B h c (w.alloc (.cells #[.int .i64 M', .int .u64 E', .int .i64 B'] 24)) (k.alloc _) f)
  have K := Lib.hid k; clear k
  have HV := Lib.hid (fun (W : World) (k : Bk W g M E B h c) => comes_any g M E B h c now W k f n0 n1)
  clear f
  generalize cH M E B h c now = v at *
  generalize cC E c now = d at *
  by_cases hm : v ≤ B'
  all_goals
   first | rw [if_pos hm] | rw [if_neg hm]
   go_enter Try.func20, Try.ntmps20
   go_wp2_with fail
   refine HN.out.mono ?_
   rintro e w' ⟨rfl, rfl⟩
   go_wp2_with fail
   refine (check_yes M' E' B' _ R.out).mono ?_
   rintro e w1 ⟨rfl, hb⟩
   have k1 := (K.out.alloc (.cells #[.int .i64 M', .int .u64 E', .int .i64 B'] 24)).below hb (by simp; omega)
   have r1 := (Rt.new w M' E' B').below hb (by simp)
   have HB := Lib.hid hb; clear hb
   have K1 := Lib.hid k1; have R1 := Lib.hid r1; clear k1 r1
   go_wp2_with fail
   refine (HV.out _ K1.out).mono ?_
   rintro e w2 ⟨rfl, k2, hg⟩
   have r2 := R1.out.grown hg (by omega)
   have K2 := Lib.hid k2; have G2 := Lib.hid hg; clear hg
   obtain ⟨c0, c1, c2⟩ := r2.cells
   obtain ⟨q0, q1, q2, q3, q4, z3, z4⟩ := k2.cells
   have z0 : w2.frozen? ⟨g, 0, none⟩ = false := by have := K2.out; unfold Bk at this; simp [World.frozen?, this]
   have z1 : w2.frozen? ⟨g, 1, none⟩ = false := by have := K2.out; unfold Bk at this; simp [World.frozen?, this]
   have z2 : w2.frozen? ⟨g, 2, none⟩ = false := by have := K2.out; unfold Bk at this; simp [World.frozen?, this]
   have hne : ¬ w.heap.size = g := by omega
   have hne' : ¬ g = w.heap.size := by omega
   clear k2 r2
   go_wp2_with fail
   go_region
   go_wp2_with fail
   go_ret
   go_tidy
   exact ⟨rfl, (K2.out.set_ _ _ _ _).1, grown_trans (grown_trans (grown_alloc _ _ _) (grown_of_below HB.out _)) (grown_trans G2.out (K2.out.set_ _ _ _ _).2)⟩

set_option maxHeartbeats 4000000 in
set_option maxRecDepth 100000 in
theorem names_walk (w : World) : Calls Try.prog 8 #[] w fun e w' => e = .returned (.bool true) ∧ Below w.heap.size w w' := by
  go_enter Try.func8, Try.ntmps8
  go_wp2_with fail
  refine (few_any _).mono ?_
  rintro e w1 ⟨rfl, b1⟩
  have B1 := Lib.hid b1; clear b1
  go_wp2_with fail
  refine (new_yes 3 10 8 100 _ rated_few).mono ?_
  rintro e w2 ⟨g, rfl, hg, k, b2⟩
  have B2 := Lib.hid b2; have K := Lib.hid k; clear b2 k
  go_wp2_with fail
  refine (take_any g 3 10 8 8 100 100 10 _ K.out (fits_few _ _ (by omega) (by omega) (by omega) (by omega)) (by omega) (by omega)).mono ?_
  rintro e w3 ⟨rfl, k, h3⟩
  rw [show cH 3 10 8 8 100 100 = 8 by decide, show cC 10 100 100 = 100 by decide, show tk 8 10 = 8 by decide] at k
  rw [show cH 3 10 8 8 100 100 = 8 by decide, show tk 8 10 = 8 by decide]
  have K3 := Lib.hid k; have G3 := Lib.hid h3; clear h3 k
  go_wp2_with fail
  refine (have_any g 3 10 8 0 100 125 _ K3.out (fits_few _ _ (by omega) (by omega) (by omega) (by omega)) (by omega) (by omega)).mono ?_
  rintro e w4 ⟨rfl, k, h4⟩
  rw [show cH 3 10 8 0 100 125 = 6 by decide, show cC 10 100 125 = 120 by decide] at k
  rw [show cH 3 10 8 0 100 125 = 6 by decide]
  have K4 := Lib.hid k; have G4 := Lib.hid (grown_trans G3.out h4); clear h4 k
  go_wp2_with fail
  refine (borrow_any g 3 10 8 6 120 125 9 _ K4.out (fits_few _ _ (by omega) (by omega) (by omega) (by omega)) (by omega) (by omega)).mono ?_
  rintro e w5 ⟨rfl, k, h5⟩
  rw [show cH 3 10 8 6 120 125 = 6 by decide, show cC 10 120 125 = 120 by decide, show boH 6 9 = -3 by decide] at k
  rw [show cH 3 10 8 6 120 125 = 6 by decide, show boE 6 9 = 0 by decide]
  have K5 := Lib.hid k; have G5 := Lib.hid (grown_trans G4.out h5); clear h5 k
  go_wp2_with fail
  refine (have_any g 3 10 8 (-3) 120 125 _ K5.out (fits_few _ _ (by omega) (by omega) (by omega) (by omega)) (by omega) (by omega)).mono ?_
  rintro e w6 ⟨rfl, k, h6⟩
  rw [show cH 3 10 8 (-3) 120 125 = -3 by decide, show cC 10 120 125 = 120 by decide] at k
  rw [show cH 3 10 8 (-3) 120 125 = -3 by decide]
  have K6 := Lib.hid k; have G6 := Lib.hid (grown_trans G5.out h6); clear h6 k
  go_wp2_with fail
  refine (when_any g 3 10 8 (-3) 120 125 1 _ K6.out (fits_few _ _ (by omega) (by omega) (by omega) (by omega)) (by omega) (by omega)).mono ?_
  rintro e w7 ⟨rfl, k, h7⟩
  rw [show cH 3 10 8 (-3) 120 125 = -3 by decide, show cC 10 120 125 = 120 by decide] at k
  rw [show whenV 3 10 8 (cH 3 10 8 (-3) 120 125) (cC 10 120 125) 125 1 = 140 by decide]
  have K7 := Lib.hid k; have G7 := Lib.hid (grown_trans G6.out h7); clear h7 k
  go_wp2_with fail
  refine (when_any g 3 10 8 (-3) 120 125 9 _ K7.out (fits_few _ _ (by omega) (by omega) (by omega) (by omega)) (by omega) (by omega)).mono ?_
  rintro e w8 ⟨rfl, k, h8⟩
  rw [show cH 3 10 8 (-3) 120 125 = -3 by decide, show cC 10 120 125 = 120 by decide] at k
  rw [show whenV 3 10 8 (cH 3 10 8 (-3) 120 125) (cC 10 120 125) 125 9 = 18446744073709551615 by decide]
  have K8 := Lib.hid k; have G8 := Lib.hid (grown_trans G7.out h8); clear h8 k
  go_wp2_with fail
  refine (when_any g 3 10 8 (-3) 120 125 (-3) _ K8.out (fits_few _ _ (by omega) (by omega) (by omega) (by omega)) (by omega) (by omega)).mono ?_
  rintro e w9 ⟨rfl, k, h9⟩
  rw [show cH 3 10 8 (-3) 120 125 = -3 by decide, show cC 10 120 125 = 120 by decide] at k
  rw [show whenV 3 10 8 (cH 3 10 8 (-3) 120 125) (cC 10 120 125) 125 (-3) = 125 by decide]
  have K9 := Lib.hid k; have G9 := Lib.hid (grown_trans G8.out h9); clear h9 k
  go_wp2_with fail
  refine (borrow_any g 3 10 8 (-3) 120 125 (-1) _ K9.out (fits_few _ _ (by omega) (by omega) (by omega) (by omega)) (by omega) (by omega)).mono ?_
  rintro e w10 ⟨rfl, k, h10⟩
  rw [show cH 3 10 8 (-3) 120 125 = -3 by decide, show cC 10 120 125 = 120 by decide, show boH (-3) (-1) = -3 by decide] at k
  rw [show cH 3 10 8 (-3) 120 125 = -3 by decide, show boE (-3) (-1) = 2 by decide]
  have K10 := Lib.hid k; have G10 := Lib.hid (grown_trans G9.out h10); clear h10 k
  go_wp2_with fail
  refine (borrow_any g 3 10 8 (-3) 120 125 2147483647 _ K10.out (fits_few _ _ (by omega) (by omega) (by omega) (by omega)) (by omega) (by omega)).mono ?_
  rintro e w11 ⟨rfl, k, h11⟩
  rw [show cH 3 10 8 (-3) 120 125 = -3 by decide, show cC 10 120 125 = 120 by decide, show boH (-3) 2147483647 = -3 by decide] at k
  rw [show cH 3 10 8 (-3) 120 125 = -3 by decide, show boE (-3) 2147483647 = 2 by decide]
  have K11 := Lib.hid k; have G11 := Lib.hid (grown_trans G10.out h11); clear h11 k
  go_wp2_with fail
  refine (set_no g 3 10 8 (-3) 120 125 3 0 8 _ K11.out (fits_few _ _ (by omega) (by omega) (by omega) (by omega)) (by unfold Rated; omega)).mono ?_
  rintro e w12 ⟨rfl, k, h12⟩
  have G12 := Lib.hid (grown_trans G11.out h12); clear h12 k
  go_wp2_with fail
  refine (new_no 9 1 8 0 _ (by unfold Rated; omega)).mono ?_
  rintro e w13 ⟨rfl, b13⟩
  have B13 := Lib.hid b13; clear b13
  go_wp2_with fail
  refine (new_no 1 1048577 8 0 _ (by unfold Rated; omega)).mono ?_
  rintro e w14 ⟨rfl, b14⟩
  have B14 := Lib.hid b14; clear b14
  go_wp2_with fail
  refine (alive_any _).mono ?_
  rintro e w15 ⟨rfl, b15⟩
  have B15 := Lib.hid b15; clear b15
  go_wp2_with (first
    | (go_at_call 11; refine (take_nil _ _ _ (by omega)).mono ?_; rintro e w' ⟨rfl, rfl⟩)
    | (go_at_call 14; refine (borrow_nil _ _ _).mono ?_; rintro e w' ⟨rfl, rfl⟩)
    | (go_at_call 23; refine (few_any _).mono ?_; rintro e w16 ⟨rfl, b16⟩; have B16 := Lib.hid b16; clear b16)
    | (go_at_call 20; refine (set_nil _ _ _ _ _).mono ?_; rintro e w17 ⟨rfl, b17⟩; have B17 := Lib.hid b17; clear b17))
  go_ret
  refine ⟨rfl, ?_⟩
  have s1 := B1.out.size; have s2 := B2.out.size; have s12 := G12.out.size; have s13 := B13.out.size; have s14 := B14.out.size; have s15 := B15.out.size; have s16 := B16.out.size
  have c2 : Below w.heap.size w w2 := B1.out.trans (B2.out.mono (by omega))
  have c12 : Below w.heap.size w w12 := c2.grown G12.out (by omega) (fun k e => by cases e; omega)
  exact ((((c12.trans (B13.out.mono (by omega))).trans (B14.out.mono (by omega))).trans (B15.out.mono (by omega))).trans (B16.out.mono (by omega))).trans (B17.out.mono (by omega))
end Go.Proofs.Ytgnamdncoidcnaa
