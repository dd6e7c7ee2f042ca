/- The law of the plays. -/
import Derived.Test.YtgnamdncoidcnaaJ
import Derived.Deep.Slices
namespace Go.Proofs.Ytgnamdncoidcnaa
open Go.RowKit
set_option linter.unusedSimpArgs false
set_option linter.unusedVariables false

/-- A call: kind, tick, number, rate. -/
structure OpV where
  kd : Int
  nw : Int
  n : Int
  m : Int
  e : Int
  b : Int
def OpV.wf (o : OpV) : Prop := (Lit.int .i64 o.kd).wf = true ∧ (Lit.int .u64 o.nw).wf = true ∧ (Lit.int .i64 o.n).wf = true ∧ (Lit.int .i64 o.m).wf = true ∧ (Lit.int .u64 o.e).wf = true ∧ (Lit.int .i64 o.b).wf = true
def OpV.cells (o : OpV) : List Value := [.int .i64 o.kd, .int .u64 o.nw, .int .i64 o.n, .int .i64 o.m, .int .u64 o.e, .int .i64 o.b]

/-- A slice of calls, as it is read. -/
def OpsAt (w : World) (a : Option Addr) (os : List OpV) : Prop :=
  0 < os.length → ∃ b off, a = some ⟨b, off, none⟩ ∧ b < w.heap.size ∧ ∀ i (h : i < os.length), os[i].wf ∧ ∀ j, j < 6 → w.cell? ⟨b, off + i * 6 + j, none⟩ = os[i].cells[j]?

/-- The two buckets, program's and reference's, are one. -/
structure Pl (w0 W : World) (g r : Nat) (M E B h c : Int) : Prop where
  k : Bk W g M E B h c
  q : Rk W r M E B h c
  f : Fits M E B h c
  o1 : w0.heap.size ≤ g
  o2 : g < r
  bel : Below w0.heap.size w0 W

theorem Pl.onA {w0 W W' : World} {g r : Nat} {M E B h c M' E' B' h' c' : Int} (t : Pl w0 W g r M E B h c) (k : Bk W' g M' E' B' h' c') (hg : W.grownBy W' (some g)) :
    Bk W' g M' E' B' h' c' ∧ Rk W' r M E B h c ∧ Below w0.heap.size w0 W' :=
  ⟨k, t.q.grown hg (by have := t.o2; omega), t.bel.grown hg t.bel.size (fun k e => by cases e; exact t.o1)⟩

/-- A call's box. -/
def Xb (W : World) (bx : Nat) (o : OpV) : Prop := W.heap[bx]? = some (.cells #[.int .i64 o.kd, .int .u64 o.nw, .int .i64 o.n, .int .i64 o.m, .int .u64 o.e, .int .i64 o.b] 49 (0, 0))
theorem Xb.cells {W : World} {bx : Nat} {o : OpV} (h : Xb W bx o) :
    W.cell? ⟨bx, 0, none⟩ = some (.int .i64 o.kd) ∧ W.cell? ⟨bx, 1, none⟩ = some (.int .u64 o.nw) ∧ W.cell? ⟨bx, 2, none⟩ = some (.int .i64 o.n) ∧ W.cell? ⟨bx, 3, none⟩ = some (.int .i64 o.m) ∧ W.cell? ⟨bx, 4, none⟩ = some (.int .u64 o.e) ∧ W.cell? ⟨bx, 5, none⟩ = some (.int .i64 o.b) := by
  unfold Xb at h
  simp [World.cell?, h]
theorem Xb.grown {W W' : World} {bx r : Nat} {o : OpV} (k : Xb W bx o) (hb : W.grownBy W' (some r)) (hne : bx ≠ r) : Xb W' bx o :=
  (hb.block bx (lt_of_block k) (fun e => hne (by injection e))).trans k

theorem Pl.both {w0 W W' W'' : World} {g r : Nat} {M E B h c M' E' B' h' c' : Int} (t : Pl w0 W g r M E B h c) (k : Bk W' g M' E' B' h' c') (g1 : W.grownBy W' (some g)) (q : Rk W'' r M' E' B' h' c') (g2 : W'.grownBy W'' (some r)) (f : Fits M' E' B' h' c') :
    Pl w0 W'' g r M' E' B' h' c' := by
  have o1 := t.o1; have o2 := t.o2
  have b1 := t.bel.grown g1 t.bel.size (fun k e => by cases e; exact o1)
  exact ⟨k.grown g2 (by omega), q, f, o1, o2, b1.grown g2 b1.size (fun k e => by cases e; omega)⟩
theorem Pl.onA' {w0 W W' : World} {g r : Nat} {M E B h c : Int} (t : Pl w0 W g r M E B h c) (k : Bk W' g M E B h c) (g1 : W.grownBy W' (some g)) (f : Fits M E B h c) :
    Pl w0 W' g r M E B h c := by
  have o1 := t.o1; have o2 := t.o2
  exact ⟨k, t.q.grown g1 (by omega), f, o1, o2, t.bel.grown g1 t.bel.size (fun k e => by cases e; exact o1)⟩
theorem Fits.take {M E B h c : Int} (f : Fits M E B h c) (n : Int) : Fits M E B (h - tk h n) c := by
  have ht : 0 ≤ tk h n ∧ -2147483647 ≤ h - tk h n := by
    have := f.h1
    unfold tk; repeat' split
    all_goals omega
  exact ⟨f.m1, f.m2, f.e1, f.e2, f.b1, f.b2, ht.2, by have := f.h2; omega, f.c1, f.c2⟩
theorem Fits.borrow {M E B h c : Int} (f : Fits M E B h c) (n : Int) : Fits M E B (boH h n) c := by
  have := boH_bd h n f.h1
  exact ⟨f.m1, f.m2, f.e1, f.e2, f.b1, f.b2, this.1, by have := f.h2; omega, f.c1, f.c2⟩
theorem Fits.set {M E B h c M' E' B' : Int} (f : Fits M E B h c) (r : Rated M' E' B') : Fits M' E' B' (if h ≤ B' then h else B') c := by
  have := f.h1
  obtain ⟨a1, a2, a3, a4, a5, a6⟩ := r
  exact ⟨a1, a2, a3, a4, a5, a6, by split <;> omega, by split <;> omega, f.c1, f.c2⟩

theorem grown_undrew {w w' : World} {r : Option Nat} (h : w.drew.grownBy w' r) : w.grownBy w' r := ⟨h.os, h.tape, h.output, h.size, h.block⟩
theorem Pl.alloc {w0 W : World} {g r : Nat} {M E B h c : Int} (t : Pl w0 W g r M E B h c) (o : Obj) : Pl w0 (W.alloc o) g r M E B h c :=
  ⟨t.k.alloc o, t.q.alloc o, t.f, t.o1, t.o2, t.bel.alloc t.bel.size o⟩

set_option maxHeartbeats 4000000 in
set_option maxRecDepth 100000 in
theorem plays_walk (M E B now : Int) (ad : Option Addr) (cap : Nat) (os : List OpV) (w : World) (t0 : 0 ≤ now) (t1 : now ≤ 18446744073709551615)
    (hz : OpsAt w ad os) (hm : os.length ≤ 9223372036854775807) :
    Calls Try.prog 7 #[.agg #[.int .i64 M, .int .u64 E, .int .i64 B], .int .u64 now, .slice ad os.length cap] w fun e w' => e = .returned (.bool true) ∧ Below w.heap.size w w' := by
  have HZ := Lib.hid hz; clear hz
  have HA := Lib.hid (Rt.new w M E B)
  by_cases hl : os.length ≤ 100
  · have hl2 : decide (100 < os.length) = false := by simp; omega
    have hl3 : decide ((100 : Int) < (os.length : Int)) = false := by simp; omega
    by_cases r : Rated M E B
    · have R := Lib.hid r; clear r
      go_enter Try.func7, Try.ntmps7
      go_wp2_with fail
      refine (check_yes M E B _ R.out).mono ?_
      rintro e w1 ⟨rfl, b1⟩
      have r1 := HA.out.below b1 (by simp)
      have B1 := Lib.hid b1; have R1 := Lib.hid r1; clear b1
      obtain ⟨c0, c1, c2⟩ := r1.cells
      clear r1
      go_wp2_with fail
      refine (new_yes M E B now _ R.out).mono ?_
      rintro e w2 ⟨g, rfl, hg, k, b2⟩
      have r2 := R1.out.below b2 (by have := lt_of_block R1.out; omega)
      have B2 := Lib.hid b2; have K := Lib.hid k; clear b2 k c0 c1 c2
      obtain ⟨c0, c1, c2⟩ := r2.cells
      clear r2
      go_wp2_with fail
      refine (rnew_yes M E B now _ R.out).mono ?_
      rintro e w3 ⟨rfl, b3⟩
      have B3 := Lib.hid b3; clear b3 c0 c1 c2
      have P3 : Pl w (w3.alloc (.cells #[.int .i64 M, .int .i64 B, .int .u64 E, .int .i64 B, .int .u64 now] 45)) g w3.heap.size M E B B now := by
        have s1 := B1.out.size; have s2 := B2.out.size; have s3 := B3.out.size
        simp at s1
        have kl := K.out.lt
        refine ⟨(K.out.below B3.out kl).alloc _, by show (w3.heap.push _)[w3.heap.size]? = _; simp, R.out.fits _ _ (by have := R.out; unfold Rated at this; omega) (Int.le_refl _) t0 t1, by omega, by omega, ?_⟩
        exact (((((Below.refl _ _).alloc (Nat.le_refl _) _).trans (B1.out.mono (by simp))).trans (B2.out.mono (by omega))).trans (B3.out.mono (by omega))).alloc (by omega) _
      generalize hr : w3.heap.size = r at *
      have HR := Lib.hid hr
      clear B1 R1 B2 B3 K hg
      go_wp2_with fail
      clear hr
      go_loopw [12] (fun i wr => ∃ (k : Nat) (M E B h c : Int), k ≤ os.length ∧ i = .int .i64 k ∧ Pl w wr g r M E B h c) (fun i _ => os.length - (intOf i).toNat)
      case atStart => exact ⟨0, M, E, B, B, now, Nat.zero_le _, rfl, P3⟩
      case round =>
        obtain ⟨k, M, E, B, h, c, hk, rfl, P⟩ := hrel
        clear P3 R HA
        by_cases hlt : k < os.length
        · obtain ⟨b, off, hadr, hb, hc⟩ := HZ.out (by omega)
          subst hadr
          obtain ⟨owf, hck⟩ := hc k hlt
          clear hc
          have q0 := (P.bel.cell (p := ⟨b, off + k * 6 + 0, none⟩) hb).trans (hck 0 (by omega))
          have q1 := (P.bel.cell (p := ⟨b, off + k * 6 + 1, none⟩) hb).trans (hck 1 (by omega))
          have q2 := (P.bel.cell (p := ⟨b, off + k * 6 + 2, none⟩) hb).trans (hck 2 (by omega))
          have q3 := (P.bel.cell (p := ⟨b, off + k * 6 + 3, none⟩) hb).trans (hck 3 (by omega))
          have q4 := (P.bel.cell (p := ⟨b, off + k * 6 + 4, none⟩) hb).trans (hck 4 (by omega))
          have q5 := (P.bel.cell (p := ⟨b, off + k * 6 + 5, none⟩) hb).trans (hck 5 (by omega))
          clear hck
          generalize os[k] = o at *
          simp only [OpV.cells, List.getElem?_cons_zero, List.getElem?_cons_succ, Nat.add_zero] at q0 q1 q2 q3 q4 q5
          obtain ⟨a1, a2, a3, a4, a5, a6⟩ := owf
          obtain ⟨n0, n1⟩ := bd_u64 a2
          obtain ⟨f0, f1⟩ := bd_i64 a3
          clear a1 a2 a3 a4 a5 a6
          have X : Xb (wr.alloc (.cells #[.int .i64 o.kd, .int .u64 o.nw, .int .i64 o.n, .int .i64 o.m, .int .u64 o.e, .int .i64 o.b] 49)) wr.heap.size o := by show (wr.heap.push _)[wr.heap.size]? = _; simp
          have P1 := P.alloc (.cells #[.int .i64 o.kd, .int .u64 o.nw, .int .i64 o.n, .int .i64 o.m, .int .u64 o.e, .int .i64 o.b] 49)
          have hrx : r < wr.heap.size := P.q.lt
          have hgx : g < wr.heap.size := P.k.lt
          by_cases k1 : o.kd = 1
          · have b1 : (o.kd == 1) = true := by simp [k1]
            clear k1
            go_wp2_with fail
            obtain ⟨W, hW⟩ : ∃ W, W = wr.alloc (.cells #[.int .i64 o.kd, .int .u64 o.nw, .int .i64 o.n, .int .i64 o.m, .int .u64 o.e, .int .i64 o.b] 49) := ⟨_, rfl⟩
            rw [← hW] at X P1 ⊢
            clear hW
            obtain ⟨x0, x1, x2, x3, x4, x5⟩ := X.cells
            go_region_held3 (fun w' => w'.cell? ⟨wr.heap.size, 1, none⟩ = some (.int .u64 o.nw) ∧ w'.cell? ⟨wr.heap.size, 2, none⟩ = some (.int .i64 o.n)) (first | exact ⟨x1, x2⟩ | exact ⟨y1, y2⟩ | exact ⟨v1, v2⟩)
              (first
                | (go_at_call 11; refine (take_any g M E B h c o.nw o.n _ (by exact P1.k) P1.f n0 n1).mono ?_; rintro e w7 ⟨rfl, k7, hg7⟩; have G7 := grown_undrew hg7; clear hg7; have X7 := X.grown G7 (by omega); obtain ⟨y0, y1, y2, y3, y4, y5⟩ := X7.cells)
                | (go_at_call 17; refine (rtake_any r M E B h c o.nw o.n _ (by exact P1.q.grown G7 (by have := P1.o2; omega)) P1.f n0 n1).mono ?_; rintro e w8 ⟨rfl, k8, hg8⟩; have X8 := X7.grown hg8 (by omega); obtain ⟨v0, v1, v2, v3, v4, v5⟩ := X8.cells))
            obtain ⟨M', E', B', h', c', P8⟩ : ∃ M' E' B' h' c', Pl w w8 g r M' E' B' h' c' := ⟨_, _, _, _, _, P1.both k7 G7 k8 hg8 ((P1.f.comes n1).take o.n)⟩
            clear k7 k8 hg8 G7 X7 y0 y1 y2 y3 y4 y5 x0 x1 x2 x3 x4 x5 v0 v2 v3 v4 v5 P1 P
            go_wp2_with fail
            refine (rcomes_any r M' E' B' h' c' o.nw _ P8.q P8.f n0 n1).mono ?_
            rintro e w9 ⟨rfl, k9, hg9⟩
            have X9 := X8.grown hg9 (by omega)
            obtain ⟨y0, y1, y2, y3, y4, y5⟩ := X9.cells
            obtain ⟨u0, u1, u2, u3, u4, t0', t1', t2', t3', t4'⟩ := k9.cells
            have K9 := P8.k.grown hg9 (by have := P8.o2; omega)
            have BE9 := P8.bel.grown hg9 P8.bel.size (fun k e => by cases e; have := P8.o1; have := P8.o2; omega)
            have F9 := P8.f
            have O1 := P8.o1; have O2 := P8.o2
            clear y0 y2 y3 y4 y5 u0 u1 u2 u4 t0' t1' t2' t3' t4' X8 v1 P8
            go_wp2_with fail
            go_region_held3 (fun w' => w'.cell? ⟨wr.heap.size, 1, none⟩ = some (.int .u64 o.nw) ∧ w'.cell? ⟨r, 3, none⟩ = some (.int .i64 (cH M' E' B' h' c' o.nw))) (first | exact ⟨y1, u3⟩ | exact ⟨z1, z2⟩)
              (first
                | (go_at_call 12; refine (have_any g M' E' B' h' c' o.nw _ (by exact K9) F9 n0 n1).mono ?_; rintro e w10 ⟨rfl, k10, hg10⟩; have G10 := grown_undrew hg10; clear hg10; have z1 := (X9.grown G10 (by omega)).cells.2.1; have z2 := (k9.grown G10 (by omega)).cells.2.2.2.1))
            go_wp2_with fail
            go_roundw
            case rel => exact ⟨k + 1, M', E', B', cH M' E' B' h' c' o.nw, cC E' c' o.nw, by omega, by go_num, k10, k9.grown G10 (by omega), F9.comes n1, O1, O2, BE9.grown G10 BE9.size (fun k e => by cases e; exact O1)⟩
            case measure => simp [intOf]; omega
          · by_cases k2 : o.kd = 2
            · have b2 : (o.kd == 2) = true := by simp [k2]
              have b1 : (o.kd == 1) = false := by simp [k1]
              clear k1 k2
              go_wp2_with fail
              obtain ⟨W, hW⟩ : ∃ W, W = wr.alloc (.cells #[.int .i64 o.kd, .int .u64 o.nw, .int .i64 o.n, .int .i64 o.m, .int .u64 o.e, .int .i64 o.b] 49) := ⟨_, rfl⟩
              rw [← hW] at X P1 ⊢
              clear hW
              obtain ⟨x0, x1, x2, x3, x4, x5⟩ := X.cells
              go_region_held3 (fun w' => w'.cell? ⟨wr.heap.size, 1, none⟩ = some (.int .u64 o.nw) ∧ w'.cell? ⟨wr.heap.size, 2, none⟩ = some (.int .i64 o.n)) (first | exact ⟨x1, x2⟩ | exact ⟨y1, y2⟩ | exact ⟨v1, v2⟩)
                (first
                  | (go_at_call 14; refine (borrow_any g M E B h c o.nw o.n _ (by exact P1.k) P1.f n0 n1).mono ?_; rintro e w7 ⟨rfl, k7, hg7⟩; have G7 := grown_undrew hg7; clear hg7; have X7 := X.grown G7 (by omega); obtain ⟨y0, y1, y2, y3, y4, y5⟩ := X7.cells)
                  | (go_at_call 18; refine (rborrow_any r M E B h c o.nw o.n _ (by exact P1.q.grown G7 (by have := P1.o2; omega)) P1.f n0 n1).mono ?_; rintro e w8 ⟨rfl, k8, hg8⟩; have X8 := X7.grown hg8 (by omega); obtain ⟨v0, v1, v2, v3, v4, v5⟩ := X8.cells))
              obtain ⟨M', E', B', h', c', P8⟩ : ∃ M' E' B' h' c', Pl w w8 g r M' E' B' h' c' := ⟨_, _, _, _, _, P1.both k7 G7 k8 hg8 ((P1.f.comes n1).borrow o.n)⟩
              clear k7 k8 hg8 G7 X7 y0 y1 y2 y3 y4 y5 x0 x1 x2 x3 x4 x5 v0 v2 v3 v4 v5 P1 P
              go_wp2_with fail
              refine (rcomes_any r M' E' B' h' c' o.nw _ P8.q P8.f n0 n1).mono ?_
              rintro e w9 ⟨rfl, k9, hg9⟩
              have X9 := X8.grown hg9 (by omega)
              obtain ⟨y0, y1, y2, y3, y4, y5⟩ := X9.cells
              obtain ⟨u0, u1, u2, u3, u4, t0', t1', t2', t3', t4'⟩ := k9.cells
              have K9 := P8.k.grown hg9 (by have := P8.o2; omega)
              have BE9 := P8.bel.grown hg9 P8.bel.size (fun k e => by cases e; have := P8.o1; have := P8.o2; omega)
              have F9 := P8.f
              have O1 := P8.o1; have O2 := P8.o2
              clear y0 y2 y3 y4 y5 u0 u1 u2 u4 t0' t1' t2' t3' t4' X8 v1 P8
              go_wp2_with fail
              go_region_held3 (fun w' => w'.cell? ⟨wr.heap.size, 1, none⟩ = some (.int .u64 o.nw) ∧ w'.cell? ⟨r, 3, none⟩ = some (.int .i64 (cH M' E' B' h' c' o.nw))) (first | exact ⟨y1, u3⟩ | exact ⟨z1, z2⟩)
                (first
                  | (go_at_call 12; refine (have_any g M' E' B' h' c' o.nw _ (by exact K9) F9 n0 n1).mono ?_; rintro e w10 ⟨rfl, k10, hg10⟩; have G10 := grown_undrew hg10; clear hg10; have z1 := (X9.grown G10 (by omega)).cells.2.1; have z2 := (k9.grown G10 (by omega)).cells.2.2.2.1))
              go_wp2_with fail
              go_roundw
              case rel => exact ⟨k + 1, M', E', B', cH M' E' B' h' c' o.nw, cC E' c' o.nw, by omega, by go_num, k10, k9.grown G10 (by omega), F9.comes n1, O1, O2, BE9.grown G10 BE9.size (fun k e => by cases e; exact O1)⟩
              case measure => simp [intOf]; omega
            · by_cases k3 : o.kd = 3
              · have b3 : (o.kd == 3) = true := by simp [k3]
                have b1 : (o.kd == 1) = false := by simp [k1]
                have b2 : (o.kd == 2) = false := by simp [k2]
                clear k1 k2 k3
                go_wp2_with fail
                obtain ⟨W, hW⟩ : ∃ W, W = wr.alloc (.cells #[.int .i64 o.kd, .int .u64 o.nw, .int .i64 o.n, .int .i64 o.m, .int .u64 o.e, .int .i64 o.b] 49) := ⟨_, rfl⟩
                rw [← hW] at X P1 ⊢
                clear hW
                obtain ⟨x0, x1, x2, x3, x4, x5⟩ := X.cells
                go_region_held3 (fun w' => w'.cell? ⟨wr.heap.size, 1, none⟩ = some (.int .u64 o.nw) ∧ w'.cell? ⟨wr.heap.size, 2, none⟩ = some (.int .i64 o.n)) (first | exact ⟨x1, x2⟩ | exact ⟨y1, y2⟩ | exact ⟨v1, v2⟩)
                  (first
                    | (go_at_call 13; refine (when_any g M E B h c o.nw o.n _ (by exact P1.k) P1.f n0 n1).mono ?_; rintro e w7 ⟨rfl, k7, hg7⟩; have G7 := grown_undrew hg7; clear hg7; have X7 := X.grown G7 (by omega); obtain ⟨y0, y1, y2, y3, y4, y5⟩ := X7.cells)
                    | (go_at_call 19; refine (rwhen_any r M E B h c o.nw o.n _ (by exact P1.q.grown G7 (by have := P1.o2; omega)) P1.f n0 n1).mono ?_; rintro e w8 ⟨rfl, k8, hg8⟩; have X8 := X7.grown hg8 (by omega); obtain ⟨v0, v1, v2, v3, v4, v5⟩ := X8.cells))
                obtain ⟨M', E', B', h', c', P8⟩ : ∃ M' E' B' h' c', Pl w w8 g r M' E' B' h' c' := ⟨_, _, _, _, _, P1.both k7 G7 k8 hg8 (P1.f.comes n1)⟩
                clear k7 k8 hg8 G7 X7 y0 y1 y2 y3 y4 y5 x0 x1 x2 x3 x4 x5 v0 v2 v3 v4 v5 P1 P
                go_wp2_with fail
                refine (rcomes_any r M' E' B' h' c' o.nw _ P8.q P8.f n0 n1).mono ?_
                rintro e w9 ⟨rfl, k9, hg9⟩
                have X9 := X8.grown hg9 (by omega)
                obtain ⟨y0, y1, y2, y3, y4, y5⟩ := X9.cells
                obtain ⟨u0, u1, u2, u3, u4, t0', t1', t2', t3', t4'⟩ := k9.cells
                have K9 := P8.k.grown hg9 (by have := P8.o2; omega)
                have BE9 := P8.bel.grown hg9 P8.bel.size (fun k e => by cases e; have := P8.o1; have := P8.o2; omega)
                have F9 := P8.f
                have O1 := P8.o1; have O2 := P8.o2
                clear y0 y2 y3 y4 y5 u0 u1 u2 u4 t0' t1' t2' t3' t4' X8 v1 P8
                go_wp2_with fail
                go_region_held3 (fun w' => w'.cell? ⟨wr.heap.size, 1, none⟩ = some (.int .u64 o.nw) ∧ w'.cell? ⟨r, 3, none⟩ = some (.int .i64 (cH M' E' B' h' c' o.nw))) (first | exact ⟨y1, u3⟩ | exact ⟨z1, z2⟩)
                  (first
                    | (go_at_call 12; refine (have_any g M' E' B' h' c' o.nw _ (by exact K9) F9 n0 n1).mono ?_; rintro e w10 ⟨rfl, k10, hg10⟩; have G10 := grown_undrew hg10; clear hg10; have z1 := (X9.grown G10 (by omega)).cells.2.1; have z2 := (k9.grown G10 (by omega)).cells.2.2.2.1))
                go_wp2_with fail
                go_roundw
                case rel => exact ⟨k + 1, M', E', B', cH M' E' B' h' c' o.nw, cC E' c' o.nw, by omega, by go_num, k10, k9.grown G10 (by omega), F9.comes n1, O1, O2, BE9.grown G10 BE9.size (fun k e => by cases e; exact O1)⟩
                case measure => simp [intOf]; omega
              · by_cases k4 : o.kd = 4
                · have b4 : (o.kd == 4) = true := by simp [k4]
                  have b1 : (o.kd == 1) = false := by simp [k1]
                  have b2 : (o.kd == 2) = false := by simp [k2]
                  have b3 : (o.kd == 3) = false := by simp [k3]
                  clear k1 k2 k3 k4
                  by_cases rr : Rated o.m o.e o.b
                  · go_wp2_with fail
                    obtain ⟨W, hW⟩ : ∃ W, W = wr.alloc (.cells #[.int .i64 o.kd, .int .u64 o.nw, .int .i64 o.n, .int .i64 o.m, .int .u64 o.e, .int .i64 o.b] 49) := ⟨_, rfl⟩
                    rw [← hW] at X P1 ⊢
                    clear hW
                    obtain ⟨x0, x1, x2, x3, x4, x5⟩ := X.cells
                    go_region_held3 (fun w' => w'.cell? ⟨wr.heap.size, 1, none⟩ = some (.int .u64 o.nw) ∧ w'.cell? ⟨wr.heap.size, 3, none⟩ = some (.int .i64 o.m) ∧ w'.cell? ⟨wr.heap.size, 4, none⟩ = some (.int .u64 o.e) ∧ w'.cell? ⟨wr.heap.size, 5, none⟩ = some (.int .i64 o.b)) (first | exact ⟨x1, x3, x4, x5⟩ | exact ⟨y1, y3, y4, y5⟩ | exact ⟨v1, v3, v4, v5⟩)
                      (first
                        | (go_at_call 20; refine (set_yes g M E B h c o.nw o.m o.e o.b _ (by exact P1.k) P1.f rr n0 n1).mono ?_; rintro e w7 ⟨rfl, k7, hg7⟩; have G7 := grown_undrew hg7; clear hg7; have X7 := X.grown G7 (by omega); obtain ⟨y0, y1, y2, y3, y4, y5⟩ := X7.cells)
                        | (go_at_call 21; refine (rset_yes r M E B h c o.nw o.m o.e o.b _ (by exact P1.q.grown G7 (by have := P1.o2; omega)) P1.f rr n0 n1).mono ?_; rintro e w8 ⟨rfl, k8, hg8⟩; have X8 := X7.grown hg8 (by omega); obtain ⟨v0, v1, v2, v3, v4, v5⟩ := X8.cells))
                    obtain ⟨M', E', B', h', c', P8⟩ : ∃ M' E' B' h' c', Pl w w8 g r M' E' B' h' c' := ⟨_, _, _, _, _, P1.both k7 G7 k8 hg8 ((P1.f.comes n1).set rr)⟩
                    clear k7 k8 hg8 G7 X7 y0 y1 y2 y3 y4 y5 x0 x1 x2 x3 x4 x5 v0 v2 v3 v4 v5 P1 P
                    go_wp2_with fail
                    refine (rcomes_any r M' E' B' h' c' o.nw _ P8.q P8.f n0 n1).mono ?_
                    rintro e w9 ⟨rfl, k9, hg9⟩
                    have X9 := X8.grown hg9 (by omega)
                    obtain ⟨y0, y1, y2, y3, y4, y5⟩ := X9.cells
                    obtain ⟨u0, u1, u2, u3, u4, t0', t1', t2', t3', t4'⟩ := k9.cells
                    have K9 := P8.k.grown hg9 (by have := P8.o2; omega)
                    have BE9 := P8.bel.grown hg9 P8.bel.size (fun k e => by cases e; have := P8.o1; have := P8.o2; omega)
                    have F9 := P8.f
                    have O1 := P8.o1; have O2 := P8.o2
                    clear y0 y2 y3 y4 y5 u0 u1 u2 u4 t0' t1' t2' t3' t4' X8 v1 P8
                    go_wp2_with fail
                    go_region_held3 (fun w' => w'.cell? ⟨wr.heap.size, 1, none⟩ = some (.int .u64 o.nw) ∧ w'.cell? ⟨r, 3, none⟩ = some (.int .i64 (cH M' E' B' h' c' o.nw))) (first | exact ⟨y1, u3⟩ | exact ⟨z1, z2⟩)
                      (first
                        | (go_at_call 12; refine (have_any g M' E' B' h' c' o.nw _ (by exact K9) F9 n0 n1).mono ?_; rintro e w10 ⟨rfl, k10, hg10⟩; have G10 := grown_undrew hg10; clear hg10; have z1 := (X9.grown G10 (by omega)).cells.2.1; have z2 := (k9.grown G10 (by omega)).cells.2.2.2.1))
                    go_wp2_with fail
                    go_roundw
                    case rel => exact ⟨k + 1, M', E', B', cH M' E' B' h' c' o.nw, cC E' c' o.nw, by omega, by go_num, k10, k9.grown G10 (by omega), F9.comes n1, O1, O2, BE9.grown G10 BE9.size (fun k e => by cases e; exact O1)⟩
                    case measure => simp [intOf]; omega
                  · go_wp2_with fail
                    obtain ⟨W, hW⟩ : ∃ W, W = wr.alloc (.cells #[.int .i64 o.kd, .int .u64 o.nw, .int .i64 o.n, .int .i64 o.m, .int .u64 o.e, .int .i64 o.b] 49) := ⟨_, rfl⟩
                    rw [← hW] at X P1 ⊢
                    clear hW
                    obtain ⟨x0, x1, x2, x3, x4, x5⟩ := X.cells
                    go_region_held3 (fun w' => w'.cell? ⟨wr.heap.size, 1, none⟩ = some (.int .u64 o.nw) ∧ w'.cell? ⟨wr.heap.size, 3, none⟩ = some (.int .i64 o.m) ∧ w'.cell? ⟨wr.heap.size, 4, none⟩ = some (.int .u64 o.e) ∧ w'.cell? ⟨wr.heap.size, 5, none⟩ = some (.int .i64 o.b)) (first | exact ⟨x1, x3, x4, x5⟩ | exact ⟨y1, y3, y4, y5⟩ | exact ⟨v1, v3, v4, v5⟩)
                      (first
                        | (go_at_call 20; refine (set_no g M E B h c o.nw o.m o.e o.b _ (by exact P1.k) P1.f rr).mono ?_; rintro e w7 ⟨rfl, k7, hg7⟩; have G7 := grown_undrew hg7; clear hg7; have X7 := X.grown G7 (by omega); obtain ⟨y0, y1, y2, y3, y4, y5⟩ := X7.cells)
                        | (go_at_call 21; refine (rset_no r o.nw o.m o.e o.b _ rr).mono ?_; rintro e w8 ⟨rfl, rfl⟩))
                    obtain ⟨M', E', B', h', c', P8⟩ : ∃ M' E' B' h' c', Pl w w7 g r M' E' B' h' c' := ⟨_, _, _, _, _, P1.onA' k7 G7 P1.f⟩
                    have X8 := X7
                    have v1 := y1
                    clear k7 G7 X7 y0 y1 y2 y3 y4 y5 x0 x1 x2 x3 x4 x5 P1 P
                    go_wp2_with fail
                    refine (rcomes_any r M' E' B' h' c' o.nw _ P8.q P8.f n0 n1).mono ?_
                    rintro e w9 ⟨rfl, k9, hg9⟩
                    have X9 := X8.grown hg9 (by omega)
                    obtain ⟨y0, y1, y2, y3, y4, y5⟩ := X9.cells
                    obtain ⟨u0, u1, u2, u3, u4, t0', t1', t2', t3', t4'⟩ := k9.cells
                    have K9 := P8.k.grown hg9 (by have := P8.o2; omega)
                    have BE9 := P8.bel.grown hg9 P8.bel.size (fun k e => by cases e; have := P8.o1; have := P8.o2; omega)
                    have F9 := P8.f
                    have O1 := P8.o1; have O2 := P8.o2
                    clear y0 y2 y3 y4 y5 u0 u1 u2 u4 t0' t1' t2' t3' t4' X8 v1 P8
                    go_wp2_with fail
                    go_region_held3 (fun w' => w'.cell? ⟨wr.heap.size, 1, none⟩ = some (.int .u64 o.nw) ∧ w'.cell? ⟨r, 3, none⟩ = some (.int .i64 (cH M' E' B' h' c' o.nw))) (first | exact ⟨y1, u3⟩ | exact ⟨z1, z2⟩)
                      (first
                        | (go_at_call 12; refine (have_any g M' E' B' h' c' o.nw _ (by exact K9) F9 n0 n1).mono ?_; rintro e w10 ⟨rfl, k10, hg10⟩; have G10 := grown_undrew hg10; clear hg10; have z1 := (X9.grown G10 (by omega)).cells.2.1; have z2 := (k9.grown G10 (by omega)).cells.2.2.2.1))
                    go_wp2_with fail
                    go_roundw
                    case rel => exact ⟨k + 1, M', E', B', cH M' E' B' h' c' o.nw, cC E' c' o.nw, by omega, by go_num, k10, k9.grown G10 (by omega), F9.comes n1, O1, O2, BE9.grown G10 BE9.size (fun k e => by cases e; exact O1)⟩
                    case measure => simp [intOf]; omega
                · have b1 : (o.kd == 1) = false := by simp [k1]
                  have b2 : (o.kd == 2) = false := by simp [k2]
                  have b3 : (o.kd == 3) = false := by simp [k3]
                  have b4 : (o.kd == 4) = false := by simp [k4]
                  clear k1 k2 k3 k4
                  go_wp2_with fail
                  obtain ⟨W, hW⟩ : ∃ W, W = wr.alloc (.cells #[.int .i64 o.kd, .int .u64 o.nw, .int .i64 o.n, .int .i64 o.m, .int .u64 o.e, .int .i64 o.b] 49) := ⟨_, rfl⟩
                  rw [← hW] at X P1 ⊢
                  clear hW
                  have X8 := X
                  have v1 := X.cells.2.1
                  obtain ⟨M', E', B', h', c', P8⟩ : ∃ M' E' B' h' c', Pl w W g r M' E' B' h' c' := ⟨_, _, _, _, _, P1⟩
                  clear P1 P X
                  refine (rcomes_any r M' E' B' h' c' o.nw _ P8.q P8.f n0 n1).mono ?_
                  rintro e w9 ⟨rfl, k9, hg9⟩
                  have X9 := X8.grown hg9 (by omega)
                  obtain ⟨y0, y1, y2, y3, y4, y5⟩ := X9.cells
                  obtain ⟨u0, u1, u2, u3, u4, t0', t1', t2', t3', t4'⟩ := k9.cells
                  have K9 := P8.k.grown hg9 (by have := P8.o2; omega)
                  have BE9 := P8.bel.grown hg9 P8.bel.size (fun k e => by cases e; have := P8.o1; have := P8.o2; omega)
                  have F9 := P8.f
                  have O1 := P8.o1; have O2 := P8.o2
                  clear y0 y2 y3 y4 y5 u0 u1 u2 u4 t0' t1' t2' t3' t4' X8 v1 P8
                  go_wp2_with fail
                  go_region_held3 (fun w' => w'.cell? ⟨wr.heap.size, 1, none⟩ = some (.int .u64 o.nw) ∧ w'.cell? ⟨r, 3, none⟩ = some (.int .i64 (cH M' E' B' h' c' o.nw))) (first | exact ⟨y1, u3⟩ | exact ⟨z1, z2⟩)
                    (first
                      | (go_at_call 12; refine (have_any g M' E' B' h' c' o.nw _ (by exact K9) F9 n0 n1).mono ?_; rintro e w10 ⟨rfl, k10, hg10⟩; have G10 := grown_undrew hg10; clear hg10; have z1 := (X9.grown G10 (by omega)).cells.2.1; have z2 := (k9.grown G10 (by omega)).cells.2.2.2.1))
                  go_wp2_with fail
                  go_roundw
                  case rel => exact ⟨k + 1, M', E', B', cH M' E' B' h' c' o.nw, cC E' c' o.nw, by omega, by go_num, k10, k9.grown G10 (by omega), F9.comes n1, O1, O2, BE9.grown G10 BE9.size (fun k e => by cases e; exact O1)⟩
                  case measure => simp [intOf]; omega
        · go_wp2_with fail
          go_ret
          exact ⟨rfl, P.bel⟩
    · have R := Lib.hid r; clear r
      go_enter Try.func7, Try.ntmps7
      go_wp2_with fail
      refine (check_no M E B _ R.out).mono ?_
      rintro e w1 ⟨rfl, b1⟩
      have r1 := HA.out.below b1 (by simp)
      have B1 := Lib.hid b1; have R1 := Lib.hid r1; clear b1
      obtain ⟨c0, c1, c2⟩ := r1.cells
      clear r1
      go_wp2_with fail
      refine (new_no M E B now _ R.out).mono ?_
      rintro e w2 ⟨rfl, b2⟩
      have r2 := R1.out.below b2 (by have := lt_of_block R1.out; omega)
      have B2 := Lib.hid b2; clear b2 c0 c1 c2
      obtain ⟨c0, c1, c2⟩ := r2.cells
      clear r2
      go_wp2_with fail
      refine (rnew_no M E B now _ R.out).mono ?_
      rintro e w3 ⟨rfl, b3⟩
      have B3 := Lib.hid b3; clear b3 c0 c1 c2
      go_wp2_with fail
      go_ret
      have s1 := B1.out.size; have s2 := B2.out.size; have s3 := B3.out.size
      simp at s1
      exact ⟨rfl, (((((Below.refl _ _).alloc (Nat.le_refl _) _).trans (B1.out.mono (by simp))).trans (B2.out.mono (by omega))).trans (B3.out.mono (by omega))).alloc (by omega) _⟩
  · go_enter Try.func7, Try.ntmps7
    go_wp2_with fail
    go_ret
    exact ⟨rfl, (Below.refl _ _).alloc (Nat.le_refl _) _⟩
end Go.Proofs.Ytgnamdncoidcnaa
