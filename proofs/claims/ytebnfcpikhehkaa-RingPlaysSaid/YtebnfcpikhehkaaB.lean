/- The iterator pieces: it hands over the pieces. -/
import Derived.Test.YtebnfcpikhehkaaA
namespace Go.Proofs.Ytebnfcpikhehkaa
open Go.RowKit Go.Shelf
attribute [local go_sem] Oper.semAt_some
set_option linter.unusedSimpArgs false
set_option linter.unusedVariables false
set_option maxRecDepth 100000

/-- What holds while the pieces come. -/
structure PcI (C gb g bn bf br fr0 n0 : Nat) (ip op : Int) (L : List (Nat × Nat)) (J : List (Nat × Nat) → World → Prop) (pre : List (Nat × Nat)) (fr n : Nat) (W : World) : Prop where
  j : J pre W
  l : pre ++ pcsL C fr n = L
  cn : Boxed W bn 3 (.int .i64 n)
  cf : Boxed W bf 3 (.int .i64 fr)
  cr : Boxed W br 24 (.pointer (some ⟨g, 0, none⟩))
  rk : Rk W g gb C fr0 n0 ip op
theorem drewN_grown (w : World) (k : Nat) (r : Option Nat) : w.grownBy (w.drewN k) r := ⟨rfl, rfl, rfl, Nat.le_refl _, fun _ _ _ => rfl⟩
theorem PcI.drewN {C gb g bn bf br fr0 n0 : Nat} {ip op : Int} {L : List (Nat × Nat)} {J : List (Nat × Nat) → World → Prop} {pre : List (Nat × Nat)} {fr n : Nat} {W : World} (T : PcI C gb g bn bf br fr0 n0 ip op L J pre fr n W) (hJ : Abid (fun r => r = bn ∨ r = bf) J) (k : Nat) : PcI C gb g bn bf br fr0 n0 ip op L J pre fr n (W.drewN k) :=
  ⟨hJ _ _ _ none T.j (drewN_grown _ _ none) (fun r e => by cases e), T.l, T.cn, T.cf, T.cr, T.rk⟩
theorem Rk.same {w w' : World} {g gb C fr n : Nat} {ip op : Int} (k : Rk w g gb C fr n ip op) (h : w'.heap[g]? = w.heap[g]?) : Rk w' g gb C fr n ip op := h.trans k
def cellN (W : World) (b : Nat) : Nat := match W.cell? ⟨b, 0, none⟩ with | some v => (intOf v).toNat | none => 0
theorem cast_box {W : World} {b : Nat} {t : TypeId} {x y : Int} (k : Boxed W b t (.int .i64 x)) (h : x = y) : Boxed W b t (.int .i64 y) := h ▸ k
theorem cellN_box {W : World} {b n : Nat} {t : TypeId} (h : Boxed W b t (.int .i64 (n : Int))) : cellN W b = n := by
  unfold cellN
  rw [h.cell]
  simp [intOf]
set_option maxHeartbeats 4000000 in
theorem pieces1_in (n : Nat) (hn : 1 ≤ n) (l bn bf br g gb C fr0 n0 fr m : Nat) (ip op : Int) (hne : bn ≠ bf ∧ bn ≠ br ∧ bn ≠ g ∧ bf ≠ br ∧ bf ≠ g) (hC : C ≤ 65536) (hm : m ≤ C) (hfr : fr ≤ 1000000) (J : List (Nat × Nat) → World → Prop) (W : World)
    (hJ : Abid (fun r => r = bn ∨ r = bf) J)
    (hY : ∀ pre x A, J pre A → pre ++ [x] <+: pcsL C fr m → YieldAt Fence.wide (n - 1) Try.prog l (encP gb C x) A fun e B => e = .returned (.bool true) ∧ J (pre ++ [x]) B ∧ KR bn bf br g A B)
    (h0 : J [] W) (cn : Boxed W bn 3 (.int .i64 m)) (cf : Boxed W bf 3 (.int .i64 fr)) (cr : Boxed W br 24 (.pointer (some ⟨g, 0, none⟩))) (rk : Rk W g gb C fr0 n0 ip op) :
    CallsIn Fence.wide n Try.prog 27 (#[.func (.yield l) #[] #[]] ++ #[.pointer (some ⟨bn, 0, none⟩), .pointer (some ⟨bf, 0, none⟩), .pointer (some ⟨br, 0, none⟩)]) W fun e W' => (∃ v, e = .returned v) ∧ J (pcsL C fr m) W' := by
  obtain ⟨n1, n2, n3, n4, n5⟩ := hne
  refine callsIn_of_wp Try.func27 rfl trivial ?_ rfl
  simp only [Try.ntmps27, List.size_toArray, List.length_cons, List.length_nil, Nat.reduceAdd, Nat.reduceSub, Array.replicate_succ, Array.replicate_zero, List.push_toArray, List.append_toArray, List.nil_append, List.cons_append]
  gi_wp2_with fail
  refine wpIn_scope_wide ?_
  gi_wp2_with fail
  refine wpIn_label ?_
  gi_wp2_with fail
  gi_loopw [] (fun wr => ∃ pre f k, k ≤ m ∧ f + k ≤ fr + m ∧ PcI C gb g bn bf br fr0 n0 ip op (pcsL C fr m) J pre f k wr) (fun wr => cellN wr bn)
  case atStart => exact ⟨[], fr, m, Nat.le_refl _, Nat.le_refl _, h0, rfl, cn, cf, cr, rk⟩
  case round =>
    obtain ⟨pre, f, k, hk, hf, T⟩ := hrel
    have kn := T.cn.cell
    have kf := T.cf.cell
    have kr := T.cr.cell
    obtain ⟨k0, k1, k2, k3, k4, k5, z0, z1, z2, z3, z4⟩ := T.rk.cells
    clear k1 k2 k3 k4 k5 z0 z1 z2 z3 z4
    by_cases hlt : 0 < k
    · have ha : f % C < C := Nat.mod_lt _ (by omega)
      have hst := pcsL_step C f k hlt (by omega)
      have hq : (f : Int) % (C : Int) = ((f % C : Nat) : Int) := by omega
      have hl := T.l
      rw [hst] at hl
      have hpre : pre ++ [(f % C, min k (C - f % C))] <+: pcsL C fr m := by
        rw [← hl]
        exact List.prefix_append_right_inj _ |>.2 (by simp)
      clear cn cf cr rk h0 hst
      generalize f % C = a at *
      gi_wp2_with fail
      refine wpIn_wide.2 ?_
      go_quiet (fail)
      rw [hq]
      have T1 := T.drewN hJ nq
      generalize wr.drewN nq = V at *
      clear kn kf kr k0
      have kn := T1.cn.cell
      have kf := T1.cf.cell
      have kr := T1.cr.cell
      obtain ⟨k0, k1, k2, k3, k4, k5, z0, z1, z2, z3, z4⟩ := T1.rk.cells
      clear k1 k2 k3 k4 k5 z0 z1 z2 z3 z4
      gi_wp2_with fail
      refine wpIn_wide.2 ?_
      by_cases hfit : a + k ≤ C
      · have hmin : min k (C - a) = k := by omega
        have i1 : (a : Int) + (k : Int) ≤ (C : Int) := by omega
        rw [hmin] at hpre hl
        clear hmin
        go_quiet (fail)
        rw [show a + k - a = k by omega]
        have T2 := T1.drewN hJ nq
        generalize V.drewN nq = W2 at *
        have j2 := T2.j
        have B2n := T2.cn
        have B2f := T2.cf
        have B2r := T2.cr
        have B2k := T2.rk
        clear kn kf kr k0
        obtain ⟨fn, tmps, assign, body, hy, hR⟩ := hY _ _ W2 j2 hpre
        dsimp only [encP] at hy
        gi_wp2_with fail
        refine hR.mono ?_
        rintro e W3 ⟨rfl, j3, q1, q2, q3, q4⟩
        have B3n : Boxed W3 bn 3 (.int .i64 k) := q1.trans B2n
        have B3f : Boxed W3 bf 3 (.int .i64 f) := q2.trans B2f
        have B3r : Boxed W3 br 24 (.pointer (some ⟨g, 0, none⟩)) := q3.trans B2r
        have B3k : Rk W3 g gb C fr0 n0 ip op := q4.trans B2k
        have kn := B3n.cell
        have kf := B3f.cell
        have zn := B3n.frozen
        have zf := B3f.frozen
        clear hy hR hY
        gi_wp2_with fail
        go_roundw
        case rel =>
          refine ⟨pre ++ [(a, k)], f + k, k - k, by omega, by omega, ?_⟩
          refine ⟨hJ _ _ _ (some bn) (hJ _ _ _ (some bf) j3 (grownBy_setCell' _ bf _) (fun r e => by cases e; exact .inr rfl)) (grownBy_setCell' _ bn _) (fun r e => by cases e; exact .inl rfl), ?_, ?_, ?_, ?_, ?_⟩
          · rw [List.append_assoc]; exact hl
          · exact cast_box ((B3n.other n1 _).set _) (by omega)
          · exact cast_box ((B3f.set _).other n1.symm _) (by omega)
          · exact (B3r.other n4.symm _).other n2.symm _
          · exact B3k.same ((Below.heap_setCell _ _ _ _ (by simpa using n3.symm)).trans (Below.heap_setCell _ _ _ _ (by simpa using n5.symm)))
        case measure =>
          rw [cellN_box (n := k - k) (t := 3) (cast_box ((B3n.other n1 _).set _) (by omega)), cellN_box T.cn]
          omega
      · have hmin : min k (C - a) = (C - a) := by omega
        have i1 : (C : Int) < (a : Int) + (k : Int) := by omega
        rw [hmin] at hpre hl
        clear hmin
        go_quiet (fail)
        skip
        have T2 := T1.drewN hJ nq
        generalize V.drewN nq = W2 at *
        have j2 := T2.j
        have B2n := T2.cn
        have B2f := T2.cf
        have B2r := T2.cr
        have B2k := T2.rk
        clear kn kf kr k0
        obtain ⟨fn, tmps, assign, body, hy, hR⟩ := hY _ _ W2 j2 hpre
        dsimp only [encP] at hy
        gi_wp2_with fail
        refine hR.mono ?_
        rintro e W3 ⟨rfl, j3, q1, q2, q3, q4⟩
        have B3n : Boxed W3 bn 3 (.int .i64 k) := q1.trans B2n
        have B3f : Boxed W3 bf 3 (.int .i64 f) := q2.trans B2f
        have B3r : Boxed W3 br 24 (.pointer (some ⟨g, 0, none⟩)) := q3.trans B2r
        have B3k : Rk W3 g gb C fr0 n0 ip op := q4.trans B2k
        have kn := B3n.cell
        have kf := B3f.cell
        have zn := B3n.frozen
        have zf := B3f.frozen
        clear hy hR hY
        gi_wp2_with fail
        go_roundw
        case rel =>
          refine ⟨pre ++ [(a, (C - a))], f + (C - a), k - (C - a), by omega, by omega, ?_⟩
          refine ⟨hJ _ _ _ (some bn) (hJ _ _ _ (some bf) j3 (grownBy_setCell' _ bf _) (fun r e => by cases e; exact .inr rfl)) (grownBy_setCell' _ bn _) (fun r e => by cases e; exact .inl rfl), ?_, ?_, ?_, ?_, ?_⟩
          · rw [List.append_assoc]; exact hl
          · exact cast_box ((B3n.other n1 _).set _) (by omega)
          · exact cast_box ((B3f.set _).other n1.symm _) (by omega)
          · exact (B3r.other n4.symm _).other n2.symm _
          · exact B3k.same ((Below.heap_setCell _ _ _ _ (by simpa using n3.symm)).trans (Below.heap_setCell _ _ _ _ (by simpa using n5.symm)))
        case measure =>
          rw [cellN_box (n := k - (C - a)) (t := 3) (cast_box ((B3n.other n1 _).set _) (by omega)), cellN_box T.cn]
          omega
    · obtain rfl : k = 0 := by omega
      gi_wp2_with fail
      rw [Exit.noGoto_normal]
      go_end0
      have := T.l
      rw [pcsL_zero, List.append_nil] at this
      exact ⟨⟨_, rfl⟩, this ▸ T.j⟩

/-- The iterator's contract. -/
theorem pieces_seq (n : Nat) (hn : 1 ≤ n) (bn bf br g gb C fr0 n0 fr m : Nat) (ip op : Int) (hne : bn ≠ bf ∧ bn ≠ br ∧ bn ≠ g ∧ bf ≠ br ∧ bf ≠ g) (hC : C ≤ 65536) (hm : m ≤ C) (hfr : fr ≤ 1000000) (w : World)
    (cn : Boxed w bn 3 (.int .i64 m)) (cf : Boxed w bf 3 (.int .i64 fr)) (cr : Boxed w br 24 (.pointer (some ⟨g, 0, none⟩))) (rk : Rk w g gb C fr0 n0 ip op) :
    SeqSt Fence.wide n Try.prog 27 #[.pointer (some ⟨bn, 0, none⟩), .pointer (some ⟨bf, 0, none⟩), .pointer (some ⟨br, 0, none⟩)] (encP gb C) (fun r => r = bn ∨ r = bf) (KR bn bf br g) (pcsL C fr m) w :=
  fun l J W hW hJ hY h0 => pieces1_in n hn l bn bf br g gb C fr0 n0 fr m ip op hne hC hm hfr J W hJ hY h0 ((hW.block _ cn.lt).trans cn) ((hW.block _ cf.lt).trans cf) ((hW.block _ cr.lt).trans cr) ((hW.block _ rk.lt).trans rk)
end Go.Proofs.Ytebnfcpikhehkaa
