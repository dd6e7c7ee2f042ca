/- The law of the bounds. -/
import Derived.Test.YtgnamdncoidcnaaG
import Derived.Test.YtgnamdncoidcnaaN
import Derived.Maps.AppendAt
namespace Go.Proofs.Ytgnamdncoidcnaa
open Go.RowKit
set_option linter.unusedSimpArgs false
set_option linter.unusedVariables false

theorem info22 : (Try.prog.info? 22).map (fun i => (i.zero, i.size, i.bytes)) = some (some (.int .u64 0), 1, 8) := by kernel_rfl
theorem info2 : (Try.prog.info? 2).map (fun i => (i.zero, i.size, i.bytes)) = some (some (.int .i64 0), 1, 8) := by kernel_rfl

/-- A rate's box, a bucket, and two rows of the call's own. -/
structure Bnd (w0 W : World) (bx ga base : Nat) (M E B h c : Int) (va : Value) (al : List Int) (vt : Value) (ts : List Int) : Prop where
  r : Rt W bx M E B
  a : Bk W ga M E B h c
  o1 : w0.heap.size ≤ bx
  o2 : bx < ga
  o3 : ga < base
  bel : Below w0.heap.size w0 W
  sz : base ≤ W.heap.size
  ra : W.ownsRow base 22 1 va al.length (al.map (Value.int .u64))
  rt : W.ownsRow base 2 1 vt ts.length (ts.map (Value.int .i64))

section
variable {w0 W W' : World} {bx ga base : Nat} {M E B h c : Int} {va vt : Value} {al ts : List Int}
theorem Bnd.onA (t : Bnd w0 W bx ga base M E B h c va al vt ts) {h' c' : Int} (k : Bk W' ga M E B h' c') (g : W.grownBy W' (some ga)) : Bnd w0 W' bx ga base M E B h' c' va al vt ts :=
  ⟨t.r.grown g (by have := t.o2; omega), k, t.o1, t.o2, t.o3, t.bel.grown g t.bel.size (fun k e => by cases e; have := t.o1; have := t.o2; omega), Nat.le_trans t.sz g.size,
   t.ra.kept g (.inr (fun e => by have := (t.ra.lt _ e).1; have := t.o3; omega)), t.rt.kept g (.inr (fun e => by have := (t.rt.lt _ e).1; have := t.o3; omega))⟩
/-- Two rows of different element types do not share a block. -/
theorem rows_apart {v v' : Value} {n n' : Nat} {xs xs' : List Value} {e e' : TypeId} (h : W.ownsRow base e 1 v n xs) (h' : W.ownsRow base e' 1 v' n' xs') (hne : e ≠ e') : v.ownBlock = none ∨ v.ownBlock ≠ v'.ownBlock := by
  rcases h.2 with ⟨rfl, _⟩ | ⟨g, cap, cur, rfl, _, hh, _⟩
  · exact .inl rfl
  · rcases h'.2 with ⟨rfl, _⟩ | ⟨g', cap', cur', rfl, _, hh', _⟩
    · exact .inr (by simp [Value.ownBlock])
    · refine .inr fun e => ?_
      simp [Value.ownBlock] at e
      subst e
      rw [hh] at hh'
      injection hh' with hh'
      injection hh' with _ h2
      exact hne h2
theorem Bnd.putA (t : Bnd w0 W bx ga base M E B h c va al vt ts) {x : Int} {v' : Value} (o : Obj) (hr : W'.ownsRow base 22 1 v' (al.length + 1) (al.map (Value.int .u64) ++ [.int .u64 x])) (g : (W.alloc o).grownBy W' va.ownBlock) :
    Bnd w0 W' bx ga base M E B h c v' (al ++ [x]) vt ts := by
  have g' : W.grownBy W' va.ownBlock := ⟨g.os, g.tape, g.output, Nat.le_trans (by simp) g.size, fun k hk hne => (g.block k (by simp; omega) hne).trans (Below.heap_alloc W o k hk)⟩
  have hlo : ∀ k, va.ownBlock = some k → base ≤ k := fun k e => (t.ra.lt k e).1
  have o1 := t.o1; have o2 := t.o2; have o3 := t.o3
  refine ⟨(g'.block bx (lt_of_block t.r) (fun e => by have := hlo _ e.symm; omega)).trans t.r, (g'.block ga (lt_of_block t.a) (fun e => by have := hlo _ e.symm; omega)).trans t.a, o1, o2, o3, t.bel.grown g' t.bel.size (fun k e => by have := hlo _ e; omega), Nat.le_trans t.sz g'.size, by simpa using hr, t.rt.kept g' (rows_apart t.rt t.ra (by decide))⟩
theorem Bnd.putT (t : Bnd w0 W bx ga base M E B h c va al vt ts) {x : Int} {v' : Value} (o : Obj) (hr : W'.ownsRow base 2 1 v' (ts.length + 1) (ts.map (Value.int .i64) ++ [.int .i64 x])) (g : (W.alloc o).grownBy W' vt.ownBlock) :
    Bnd w0 W' bx ga base M E B h c va al v' (ts ++ [x]) := by
  have g' : W.grownBy W' vt.ownBlock := ⟨g.os, g.tape, g.output, Nat.le_trans (by simp) g.size, fun k hk hne => (g.block k (by simp; omega) hne).trans (Below.heap_alloc W o k hk)⟩
  have hlo : ∀ k, vt.ownBlock = some k → base ≤ k := fun k e => (t.rt.lt k e).1
  have o1 := t.o1; have o2 := t.o2; have o3 := t.o3
  refine ⟨(g'.block bx (lt_of_block t.r) (fun e => by have := hlo _ e.symm; omega)).trans t.r, (g'.block ga (lt_of_block t.a) (fun e => by have := hlo _ e.symm; omega)).trans t.a, o1, o2, o3, t.bel.grown g' t.bel.size (fun k e => by have := hlo _ e; omega), Nat.le_trans t.sz g'.size, t.ra.kept g' (rows_apart t.ra t.rt (by decide)), by simpa using hr⟩
end

theorem row_form {W : World} {base : Nat} {e : TypeId} {v : Value} {n : Nat} {xs : List Value} (h : W.ownsRow base e 1 v n xs) : ∃ A c, v = .slice A n c := by
  rcases h.2 with ⟨rfl, rfl⟩ | ⟨g, cap, cur, rfl, _⟩
  · exact ⟨_, _, rfl⟩
  · exact ⟨_, _, rfl⟩
theorem row_ints {W : World} {base : Nat} {e : TypeId} {A : Option Addr} {c : Nat} {kd : IntKind} {zs : List Int} (h : W.ownsRow base e 1 (.slice A zs.length c) zs.length (zs.map (Value.int kd))) : Ints kd W A zs := by
  intro h0
  have h1 := h
  rcases h.2 with ⟨hv, hn⟩ | ⟨g, cap, cur, hv, hb, hh, _⟩
  · omega
  · injection hv with hA _ hc
    subst hA hc
    refine ⟨g, 0, rfl, lt_of_block hh, fun i hi => ?_⟩
    rw [Nat.zero_add, h1.cellAt i (by omega), List.getElem?_map, List.getElem?_eq_getElem hi]
    simp [List.getD, hi]

theorem tk_le (v n : Int) : 0 ≤ tk v n ∧ (tk v n ≤ 0 ∨ tk v n ≤ n) := by
  unfold tk; repeat' split
  all_goals omega

set_option maxHeartbeats 4000000 in
set_option maxRecDepth 100000 in
theorem bounds_walk (M E B : Int) (ad ad2 : Option Addr) (cap cap2 : Nat) (zs ns : List Int) (w : World)
    (hz : Ints .u32 w ad zs) (hm : zs.length ≤ 9223372036854775807) (hwf : ∀ n ∈ zs, (Lit.int .u32 n).wf = true)
    (hz2 : Ints .i64 w ad2 ns) (hm2 : ns.length ≤ 9223372036854775807) :
    Calls Try.prog 3 #[.agg #[.int .i64 M, .int .u64 E, .int .i64 B], .slice ad zs.length cap, .slice ad2 ns.length cap2] w fun e w' => e = .returned (.bool true) ∧ Below w.heap.size w w' := by
  have HZ := Lib.hid hz; clear hz
  have HZ2 := Lib.hid hz2; clear hz2
  have HF := Lib.hid hwf; clear hwf
  have HA := Lib.hid (Rt.new w M E B)
  by_cases hl : zs.length ≤ 60
  · have hl2 : decide (60 < zs.length) = false := by simp; omega
    have hl3 : decide ((60 : Int) < (zs.length : Int)) = false := by simp; omega
    by_cases r : Rated M E B
    · have R := Lib.hid r; clear r
      have fx : ∀ h c, -2147483647 ≤ h → h ≤ B → 0 ≤ c → c ≤ 18446744073709551615 → Fits M E B h c := fun h c p1 p2 p3 p4 => R.out.fits h c p1 p2 p3 p4
      have FX := Lib.hid fx; clear fx
      have BB := Lib.hid (show 1 ≤ B ∧ B ≤ 2147483647 by have := R.out; unfold Rated at this; omega)
      obtain ⟨B1, B2⟩ := BB.out
      obtain ⟨i22, hi22, hz22, hs22, hy22⟩ := info_parts info22
      obtain ⟨i2, hi2, hz2, hs2, hy2⟩ := info_parts info2
      have I22 := Lib.hid hi22; have Z22 := Lib.hid hz22; have S22 := Lib.hid hs22; have Y22 := Lib.hid hy22
      have I2 := Lib.hid hi2; have Z2 := Lib.hid hz2; have S2 := Lib.hid hs2; have Y2 := Lib.hid hy2
      clear hi22 hz22 hs22 hy22 hi2 hz2 hs2 hy2
      go_enter Try.func3, Try.ntmps3
      go_wp2_with fail
      refine (alive_any _).mono ?_
      rintro e w1 ⟨rfl, hb⟩
      have r1 := HA.out.below hb (by simp)
      have HB := Lib.hid hb; clear hb
      have R1 := Lib.hid r1
      obtain ⟨c0, c1, c2⟩ := r1.cells
      clear r1
      go_wp2_with fail
      refine (new_yes M E B 0 _ R.out).mono ?_
      rintro e w2 ⟨ga, rfl, hga, ka, hb2⟩
      have T0 : Bnd w w2 w.heap.size ga w2.heap.size M E B B 0 (.slice none 0 0) [] (.slice none 0 0) [] := by
        have s1 := HB.out.size
        simp at s1
        exact ⟨R1.out.below hb2 (by omega), ka, Nat.le_refl _, by omega, ka.lt, (((Below.refl _ _).alloc (Nat.le_refl _) _).trans (HB.out.mono (by simp))).trans (hb2.mono (by omega)), Nat.le_refl _, World.ownsRow_nil _ _ _ _, World.ownsRow_nil _ _ _ _⟩
      clear hb2 ka c0 c1 c2 HB R1 hga
      go_wp2_with fail
      go_loopw [10, 11, 12, 13] (fun nw va vt i wr => ∃ (k : Nat) (t h : Int) (al ts : List Int), k ≤ zs.length ∧ i = .int .i64 k ∧ nw = .int .u64 t ∧ t ≤ 1048576 * k ∧ al.length = k ∧ PI M E B t h al ts ∧ Bnd w wr w.heap.size ga w2.heap.size M E B h (t / E * E) va al vt ts) (fun _ _ _ i _ => zs.length - (intOf i).toNat)
      case atStart => exact ⟨0, 0, B, [], [], Nat.zero_le _, rfl, rfl, by omega, rfl, PI.start M E B (by omega), by simpa using T0⟩
      case round =>
        obtain ⟨k, t, h, al, ts, hk, rfl, rfl, t1, hal, P, T⟩ := hrel
        have t0 := P.t0
        have t2 : t ≤ 62914560 := by omega
        have HT1 := Lib.hid t1
        have HAL := Lib.hid hal
        clear t1 hal
        by_cases hlt : k < zs.length
        · obtain ⟨b, off, hadr, hb, hc⟩ := (HZ.out.below T.bel) (by omega)
          subst hadr
          have hck := hc k hlt
          clear hc
          obtain ⟨z0, z1⟩ := bd_u32 (HF.out zs[k] (List.getElem_mem hlt))
          by_cases hns : k < ns.length
          · obtain ⟨b2, off2, hadr, hb2, hc2⟩ := (HZ2.out.below T.bel) (by omega)
            subst hadr
            have hck2 := hc2 k hns
            clear hc2
            have TE0 : 0 ≤ t / E * E := Int.mul_nonneg (Int.ediv_nonneg t0 (by have := R.out.2.2.1; omega)) (by have := R.out.2.2.1; omega)
            have TE1 : t / E * E ≤ t := Int.ediv_mul_le _ (by have := R.out.2.2.1; omega)
            have HC := Lib.hid (cC_mult E (t / E * E) (t / E) (t + zs[k] % 1048576) R.out.2.2.1 rfl (by omega))
            have P7 := P.step R.out (t + zs[k] % 1048576) ns[k] (by omega)
            have f7 : Fits M E B h (t / E * E) := FX.out _ _ (by have := P.h0; omega) P.hB TE0 (by omega)
            have F7 := Lib.hid f7
            clear TE0 TE1 f7
            go_wp2_with fail
            refine (take_any ga M E B h (t / E * E) (t + zs[k] % 1048576) ns[k] _ T.a F7.out (by omega) (by omega)).mono ?_
            rintro e w7 ⟨rfl, k7, hg⟩
            have T7 := T.onA k7 hg
            rw [HC.out] at T7
            clear k7 hg T P F7
            have hx := tk_le (cH M E B h (t / E * E) (t + zs[k] % 1048576)) ns[k]
            generalize cH M E B h (t / E * E) (t + zs[k] % 1048576) - tk (cH M E B h (t / E * E) (t + zs[k] % 1048576)) ns[k] = h' at *
            generalize tk (cH M E B h (t / E * E) (t + zs[k] % 1048576)) ns[k] = x at *
            obtain ⟨x0, x1⟩ := hx
            have hlen : al.length ≤ 60 := by have := HAL.out; omega
            have hlen2 : ts.length ≤ 60 := by have := P7.len; simp at this; omega
            have hsz7 := T7.sz
            go_wp2_with (first
              | (at_builtin; refine wpList_append_own _ rfl (.tmp 75) (.tmp 77) 32 rfl w2.heap.size 22 i22 (.int .u64 0) 1 8 Try.underlying32 I22.out Z22.out S22.out Y22.out rfl (by decide) _ _ _ rfl (T7.ra.alloc _) ⟨w7.heap.size, 0, none⟩ 1 1 [.int .u64 (t + zs[k] % 1048576)] rfl rfl (cell_one_new _ _ _) (by simp [Value.oneCell']) (by unfold maxLen; omega) (by omega) (by simp; omega) ?_; intro va' w8 hown hgrow _; have T8 := T7.putA _ hown hgrow; have hsz8 := T8.sz; clear hown hgrow)
              | (at_builtin; refine wpList_append_own _ rfl (.tmp 79) (.tmp 81) 26 rfl w2.heap.size 2 i2 (.int .i64 0) 1 8 Try.underlying26 I2.out Z2.out S2.out Y2.out rfl (by decide) _ _ _ rfl (T8.rt.alloc _) ⟨w8.heap.size, 0, none⟩ 1 1 [.int .i64 x] rfl rfl (cell_one_new _ _ _) (by simp [Value.oneCell']) (by unfold maxLen; omega) (by omega) (by simp; omega) ?_; intro vt' w9 hown hgrow _; have T9 := T8.putT _ hown hgrow; clear hown hgrow))
            go_roundw
            case rel => exact ⟨k + 1, _, _, _, _, by omega, by go_num, rfl, by have := HT1.out; omega, by simp [HAL.out], P7, T9⟩
            case measure => simp [intOf]; omega
          · have hns' : ns.length ≤ k := by omega
            have TE0 : 0 ≤ t / E * E := Int.mul_nonneg (Int.ediv_nonneg t0 (by have := R.out.2.2.1; omega)) (by have := R.out.2.2.1; omega)
            have TE1 : t / E * E ≤ t := Int.ediv_mul_le _ (by have := R.out.2.2.1; omega)
            have HC := Lib.hid (cC_mult E (t / E * E) (t / E) (t + zs[k] % 1048576) R.out.2.2.1 rfl (by omega))
            have P7 := P.step R.out (t + zs[k] % 1048576) 1 (by omega)
            have f7 : Fits M E B h (t / E * E) := FX.out _ _ (by have := P.h0; omega) P.hB TE0 (by omega)
            have F7 := Lib.hid f7
            clear TE0 TE1 f7
            go_wp2_with fail
            refine (take_any ga M E B h (t / E * E) (t + zs[k] % 1048576) 1 _ T.a F7.out (by omega) (by omega)).mono ?_
            rintro e w7 ⟨rfl, k7, hg⟩
            have T7 := T.onA k7 hg
            rw [HC.out] at T7
            clear k7 hg T P F7
            have hx := tk_le (cH M E B h (t / E * E) (t + zs[k] % 1048576)) 1
            generalize cH M E B h (t / E * E) (t + zs[k] % 1048576) - tk (cH M E B h (t / E * E) (t + zs[k] % 1048576)) 1 = h' at *
            generalize tk (cH M E B h (t / E * E) (t + zs[k] % 1048576)) 1 = x at *
            obtain ⟨x0, x1⟩ := hx
            have hlen : al.length ≤ 60 := by have := HAL.out; omega
            have hlen2 : ts.length ≤ 60 := by have := P7.len; simp at this; omega
            have hsz7 := T7.sz
            go_wp2_with (first
              | (at_builtin; refine wpList_append_own _ rfl (.tmp 75) (.tmp 77) 32 rfl w2.heap.size 22 i22 (.int .u64 0) 1 8 Try.underlying32 I22.out Z22.out S22.out Y22.out rfl (by decide) _ _ _ rfl (T7.ra.alloc _) ⟨w7.heap.size, 0, none⟩ 1 1 [.int .u64 (t + zs[k] % 1048576)] rfl rfl (cell_one_new _ _ _) (by simp [Value.oneCell']) (by unfold maxLen; omega) (by omega) (by simp; omega) ?_; intro va' w8 hown hgrow _; have T8 := T7.putA _ hown hgrow; have hsz8 := T8.sz; clear hown hgrow)
              | (at_builtin; refine wpList_append_own _ rfl (.tmp 79) (.tmp 81) 26 rfl w2.heap.size 2 i2 (.int .i64 0) 1 8 Try.underlying26 I2.out Z2.out S2.out Y2.out rfl (by decide) _ _ _ rfl (T8.rt.alloc _) ⟨w8.heap.size, 0, none⟩ 1 1 [.int .i64 x] rfl rfl (cell_one_new _ _ _) (by simp [Value.oneCell']) (by unfold maxLen; omega) (by omega) (by simp; omega) ?_; intro vt' w9 hown hgrow _; have T9 := T8.putT _ hown hgrow; clear hown hgrow))
            go_roundw
            case rel => exact ⟨k + 1, _, _, _, _, by omega, by go_num, rfl, by have := HT1.out; omega, by simp [HAL.out], P7, T9⟩
            case measure => simp [intOf]; omega
        · obtain ⟨A, ca, rfl⟩ := row_form T.ra
          obtain ⟨A2, ct, rfl⟩ := row_form T.rt
          have ia := row_ints T.ra
          have it := row_ints T.rt
          have IA := Lib.hid ia; have IT := Lib.hid it; clear ia it
          have hlen : al.length ≤ 60 := by have := HAL.out; omega
          have hlen2 : ts.length = al.length := P.len
          have HL2 := Lib.hid hlen2; clear hlen2
          obtain ⟨r0, r1, r2⟩ := T.r.cells
          have HB := Lib.hid T.bel
          have PP := Lib.hid P
          have M1 := Lib.hid R.out
          clear P T
          have e1 : 1 ≤ E := R.out.2.2.1
          have m1 : 1 ≤ M := R.out.1
          have m2 : M ≤ 2147483647 := R.out.2.1
          obtain ⟨W, hW⟩ : ∃ W, W = wr := ⟨_, rfl⟩
          subst hW
          go_wp2_with fail
          go_loopw [16] (fun i wr => ∃ (a n : Nat), a ≤ al.length ∧ i = .int .i64 a ∧ wr = W.drewN n) (fun i _ => al.length - (intOf i).toNat)
          case atStart => exact ⟨0, 0, Nat.zero_le _, rfl, rfl⟩
          case round =>
            obtain ⟨a, n, ha, rfl, rfl⟩ := hrel
            by_cases hla : a < al.length
            · go_wp2_with fail
              go_loopw [17, 18] (fun sm j wr => ∃ (c n : Nat), a ≤ c ∧ c ≤ al.length ∧ j = .int .i64 c ∧ sm = .int .i64 (sumOf ts a c) ∧ wr = W.drewN n) (fun _ j _ => al.length - (intOf j).toNat)
              case atStart => exact ⟨a, n, Nat.le_refl _, ha, rfl, by rw [sumOf_self], rfl⟩
              case round =>
                obtain ⟨c, m, hac, hc, rfl, rfl, rfl⟩ := hrel
                by_cases hlc : c < al.length
                · have hlc2 : c < ts.length := by have := HL2.out; omega
                  have hla2 : a < ts.length := by omega
                  obtain ⟨ba, oa, hA, hba, hca⟩ := IA.out (by omega)
                  obtain ⟨bt, ot, hT, hbt, hct⟩ := IT.out (by omega)
                  subst hA hT
                  have ga1 := hca a hla
                  have ga2 := hca c hlc
                  have gt2 := hct c hlc2
                  clear hca hct
                  have b1 := PP.out.aB a hla
                  have b2 := PP.out.mono a c hac hlc
                  have b3 := PP.out.aB c hlc
                  have b4 := PP.out.law a c hac hlc
                  have b5 := sumOf_bd ts (fun i h => by have := PP.out.tB i h; simpa [List.getD, h] using this) a c hac (by omega)
                  have b6 := PP.out.tB c hlc2
                  have hsu := sumOf_succ ts a c hac hlc2
                  have ga : al.getD a 0 = al[a] := by simp [List.getD, hla]
                  have gc : al.getD c 0 = al[c] := by simp [List.getD, hlc]
                  have gt : ts.getD c 0 = ts[c] := by simp [List.getD, hlc2]
                  rw [ga] at b1 b2 b4; rw [gc] at b2 b3 b4; rw [gt] at b6
                  clear ga gc gt
                  have q0 : 0 ≤ (al[c] - al[a]) / E := Int.ediv_nonneg (by omega) (by omega)
                  have q1 : (al[c] - al[a]) / E ≤ al[c] - al[a] := Int.ediv_le_self _ (by omega)
                  generalize hq : (al[c] - al[a]) / E = q at *
                  have p0 : 0 ≤ (q + 1) * M := Int.mul_nonneg (by omega) (by omega)
                  have p1 : (q + 1) * M ≤ 62914561 * 2147483647 := Int.mul_le_mul (by omega) m2 (by omega) (by omega)
                  have p2 : (q + 1) * M ≤ 135107990905683967 := by omega
                  clear p1
                  generalize hp : (q + 1) * M = pp at *
                  rw [hsu] at b4
                  have SU := Lib.hid hsu; clear hsu
                  obtain ⟨b11, b12⟩ := b1; obtain ⟨b31, b32⟩ := b3; obtain ⟨b51, b52⟩ := b5; obtain ⟨b61, b62⟩ := b6
                  have b53 : sumOf ts a c ≤ 128849018820 := by omega
                  clear b52
                  go_wp2_with fail
                  go_quiet (fail)
                  go_wp2_with fail
                  go_roundw
                  case rel => exact ⟨c + 1, m + nq, by omega, by omega, by go_num, by rw [SU.out], rfl⟩
                  case measure => simp [intOf]; omega
                · go_wp2_with fail
                  go_roundw
                  case rel => exact ⟨a + 1, m, by omega, by go_num, rfl⟩
                  case measure => simp [intOf]; omega
            · go_wp2_with fail
              go_ret
              exact ⟨rfl, below_drewN HB.out _⟩
    · have R := Lib.hid r; clear r
      go_enter Try.func3, Try.ntmps3
      go_wp2_with fail
      refine (alive_any _).mono ?_
      rintro e w1 ⟨rfl, hb⟩
      have r1 := HA.out.below hb (by simp)
      have HB := Lib.hid hb; clear hb
      have R1 := Lib.hid r1
      obtain ⟨c0, c1, c2⟩ := r1.cells
      clear r1
      go_wp2_with fail
      refine (new_no M E B 0 _ R.out).mono ?_
      rintro e w2 ⟨rfl, hb2⟩
      have HB2 := Lib.hid hb2; clear hb2 c0 c1 c2
      go_wp2_with fail
      go_ret
      exact ⟨rfl, two_no HB.out HB2.out (Below.refl _ _)⟩
  · go_enter Try.func3, Try.ntmps3
    go_wp2_with (go_at_call 9; refine (alive_any _).mono ?_; rintro e w1 ⟨rfl, hb⟩; have HB := Lib.hid hb; clear hb)
    go_ret
    exact ⟨rfl, ((Below.refl _ _).alloc (Nat.le_refl _) _).trans (HB.out.mono (by simp))⟩

theorem bounds_top (M E B : Int) (ad : Option Addr) (len cap : Nat) (z : List Int) (ad2 : Option Addr) (len2 cap2 : Nat) (z2 : List Int) (w : World) (_ : (Lit.int .i64 M).wf = true) (_ : (Lit.int .u64 E).wf = true) (_ : (Lit.int .i64 B).wf = true) (w3 : IsRow .u32 w ad len cap z) (w4 : IsRow .i64 w ad2 len2 cap2 z2) :
    Calls Try.prog 3 #[.agg #[.int .i64 M, .int .u64 E, .int .i64 B], .slice ad len cap, .slice ad2 len2 cap2] w fun e w' => e = .returned (.bool true) ∧ Below w.heap.size w w' := by
  obtain ⟨l, rfl, hc, hm, hi, hf⟩ := w3.ints
  obtain ⟨l2, rfl, hc2, hm2, hi2, hf2⟩ := w4.ints
  exact bounds_walk M E B ad ad2 cap cap2 l l2 w hi (by unfold maxLen at hm; omega) hf hi2 (by unfold maxLen at hm2; omega)
end Go.Proofs.Ytgnamdncoidcnaa
