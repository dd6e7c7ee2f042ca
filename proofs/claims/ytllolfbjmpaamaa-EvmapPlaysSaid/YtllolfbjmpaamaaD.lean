/- Has, Len, Wants, Of, OfSignal, Check. -/
import Derived.Test.YtllolfbjmpaamaaC
namespace Go.Proofs.Ytllolfbjmpaamaa
open Go.RowKit
set_option linter.unusedSimpArgs false
set_option linter.unusedVariables false
set_option maxRecDepth 100000

theorem wpList_field {P : Program} {w : World} {ops : Array Oper} {rest : List Oper} {o : Oper} {a : Act} {Q : Exit → Act → World → Prop} (hgd : o.guard = none) (t : TypeId) (x : Operand) (f : Nat) (ho : o.op = .field t x f) (v : Value)
    (hr : (Instr.field t (a.eval x) f).run P w = .ok v w) (h : wpList P ops Q rest (a.put o.dst v) w) : wpList P ops Q (o :: rest) a w := by
  refine wpList_plain hgd fun K hK => ?_
  unfold Oper.wp
  simp [execOp, ho, hr, Result.andThen]
  exact hK _ _ h
theorem field1 (a b : Int) (w : World) : (Instr.field 78 (.agg #[.int .i64 a, .int .i64 b]) 1).run Try.prog w = .ok (.int .i64 b) w := by kernel_rfl

theorem Has_any (w : World) (g : Nat) (S : Nat → Prop) (N : Nat) (L : List It) (x : Int) (h : Qw w g S N L) (hx : (Lit.int .i64 x).wf = true) :
    Calls Try.prog 18 #[.pointer (some ⟨g, 0, none⟩), .int .i64 x] w fun e w' => e = .returned (.bool (look L x).isSome) ∧ Below w.heap.size w w' := by
  have NO := Lib.hid (none_any w g S N L h)
  obtain ⟨mb, D, vs, h, hS⟩ := h
  have hlk := h.look2 hx
  have hc := h.cell0
  clear h hS
  generalize itOf L x = it at *
  obtain ⟨ti, tw, tn, tp⟩ := it
  generalize (look L x).isSome = b at *
  go_enter Try.func18, Try.ntmps18
  go_wp2_with (go_at_call 33; refine NO.out.mono ?_; rintro e w1 ⟨rfl, rfl⟩)
  go_ret
  exact ⟨rfl, (Below.refl _ _).alloc (Nat.le_refl _) _⟩

theorem Len_any (w : World) (g : Nat) (S : Nat → Prop) (N : Nat) (L : List It) (h : Qw w g S N L) :
    Calls Try.prog 14 #[.pointer (some ⟨g, 0, none⟩)] w fun e w' => e = .returned (.int .i64 L.length) ∧ w = w' := by
  have NO := Lib.hid (none_any w g S N L h)
  obtain ⟨mb, D, vs, h, hS⟩ := h
  have hln := fun ty => h.mp.len Try.underlying65 ty
  rw [h.sz] at hln
  have hc := h.cell0
  clear h hS
  generalize L.length = n at *
  go_enter Try.func14, Try.ntmps14
  go_wp2_with (go_at_call 33; refine NO.out.mono ?_; rintro e w1 ⟨rfl, rfl⟩)
  go_ret
  exact ⟨rfl, rfl⟩

set_option maxHeartbeats 2000000 in
theorem Wants_any (w : World) (g : Nat) (S : Nat → Prop) (N : Nat) (L : List It) (fd : Int) (h : Qw w g S N L) (hN : N ≤ 10000) :
    Calls Try.prog 13 #[.pointer (some ⟨g, 0, none⟩), .int .i64 fd] w fun e w' => e = .returned (.int .i64 (wants L fd)) ∧ w = w' := by
  have NO := Lib.hid (none_any w g S N L h)
  have hln := h.ln
  unfold wants ofL
  by_cases hfd : 0 ≤ fd ∧ fd ≤ 95
  · rw [if_pos hfd]
    have IN := Lib.hid (in_any fd w true (by simpa using hfd))
    obtain ⟨k, rfl⟩ := Int.eq_ofNat_of_zero_le hfd.1
    obtain ⟨mb, D, vs, h, hS⟩ := h
    obtain ⟨v, hv, hc, -, hrow⟩ := h.cell k (by omega)
    have hc0 := h.cell0
    have hrl := row_len L (k : Nat)
    obtain ⟨A, c, rfl, hlc, hcm, hcell⟩ := row_cells hrow
    have HC : Hid (∀ j, j < (row L (k : Nat)).length → ∃ (t : It) (b : Nat), A = some ⟨b, 0, none⟩ ∧ wntL ((row L (k : Nat)).take (j + 1)) = bits .or .i64 (wntL ((row L (k : Nat)).take j)) t.wn ∧ w.cell? ⟨b, j, none⟩ = some (.int .i64 t.id) ∧ (Instr.lookup 65 (.map (some mb)) (.int .i64 t.id) false).run Try.prog w = .ok (.agg #[.int .i64 t.nu, .int .i64 t.wn]) w) := Lib.hid (fun j hj => by
      obtain ⟨b, hA, hb, _, hW⟩ := hcell j _ (List.getElem?_eq_getElem hj)
      have hm := List.getElem_mem hj
      have hm2 := (mem_row.1 hm).1
      have hlk := h.look1 (x := ((row L (k : Nat))[j]).id) (wf64 (h.ok.b _ hm2).lo (h.ok.b _ hm2).hi)
      have e : itOf L ((row L (k : Nat))[j]).id = (row L (k : Nat))[j] := by unfold itOf; rw [look_mem h.ok hm2]; rfl
      rw [e] at hlk
      exact ⟨_, b, hA, by rw [take_step (List.getElem?_eq_getElem hj), wntL_snoc], hW w rfl, hlk⟩)
    have HT : Hid ((row L (k : Nat)).take (row L (k : Nat)).length = row L (k : Nat)) := Lib.hid (List.take_length ..)
    clear hcell h hS hv hrow
    unfold maxLen at hcm
    have hk95 : (k : Int) < 96 := by omega
    clear hfd
    generalize row L (k : Nat) = R at *
    generalize hll : R.length = ln at *
    clear hll
    go_enter Try.func13, Try.ntmps13
    go_wp2_with (first | (go_at_call 33; refine NO.out.mono ?_; rintro e w1 ⟨rfl, rfl⟩) | (go_at_call 34; refine IN.out.mono ?_; rintro e w1 ⟨rfl, rfl⟩))
    go_loopw [5, 22] (fun n i wr => ∃ j : Nat, j ≤ ln ∧ i = .int .i64 j ∧ n = .int .i64 (wntL (R.take j)) ∧ w = wr) (fun _ i _ => ln - (intOf i).toNat)
    case atStart => exact ⟨0, Nat.zero_le _, rfl, rfl, rfl⟩
    case round =>
      obtain ⟨j, hj, rfl, rfl, rfl⟩ := hrel
      by_cases hjl : j < ln
      · obtain ⟨t, b, rfl, hst, c0, hlk⟩ := HC.out j hjl
        have HST := Lib.hid hst
        clear hst
        obtain ⟨ti, tw, tn, tp⟩ := t
        (try simp only at c0 hlk)
        generalize wntL (R.take j) = n at *
        have hjl2 : (j : Int) < (ln : Int) := by omega
        go_wp2_with (refine wpList_field (by rfl) 78 (.tmp 32) 1 (by rfl) _ (field1 _ _ _) ?_)
        go_roundw
        case rel => exact ⟨j + 1, by omega, by go_num, by rw [HST.out], by first | rfl | trivial⟩
        case measure => simp [intOf]; omega
      · obtain rfl : j = ln := by omega
        rw [HT.out]
        go_wp2_with fail
        go_ret
        exact ⟨rfl, rfl⟩
  · rw [if_neg hfd]
    have IN := Lib.hid (in_any fd w false (by simpa using hfd))
    clear h hfd
    go_enter Try.func13, Try.ntmps13
    go_wp2_with (first | (go_at_call 33; refine NO.out.mono ?_; rintro e w1 ⟨rfl, rfl⟩) | (go_at_call 34; refine IN.out.mono ?_; rintro e w1 ⟨rfl, rfl⟩))
    go_ret
    exact ⟨rfl, rfl⟩

set_option maxHeartbeats 2000000 in
theorem Of_any (w : World) (g : Nat) (S : Nat → Prop) (N : Nat) (L : List It) (fd : Int) (h : Qw w g S N L) (hN : N ≤ 10000) :
    Calls Try.prog 12 #[.pointer (some ⟨g, 0, none⟩), .int .i64 fd] w fun e w' => (∃ v', e = .returned v' ∧ w'.ownsRow w.heap.size 3 1 v' (ofL L fd).length (flat (ofL L fd))) ∧ Below w.heap.size w w' := by
  have NO := Lib.hid (none_any w g S N L h)
  have hln := h.ln
  unfold ofL
  by_cases hfd : 0 ≤ fd ∧ fd ≤ 95
  · rw [if_pos hfd]
    have IN := Lib.hid (in_any fd w true (by simpa using hfd))
    obtain ⟨k, rfl⟩ := Int.eq_ofNat_of_zero_le hfd.1
    obtain ⟨mb, D, vs, h, hS⟩ := h
    obtain ⟨v, hv, hc, -, hrow⟩ := h.cell k (by omega)
    have hrl := row_len L (k : Nat)
    have HCL := Lib.hid (Clone_any v (row L (k : Nat)) w hrow (by omega))
    obtain ⟨A, c, rfl, -⟩ := row_form hrow
    clear h hS hv hrow
    have hk95 : (k : Int) < 96 := by omega
    clear hfd
    generalize hR : row L (k : Nat) = R at *
    generalize hll : R.length = ln at *
    have HLL := Lib.hid hll
    clear hll hR
    go_enter Try.func12, Try.ntmps12
    go_wp2_with (first | (go_at_call 33; refine NO.out.mono ?_; rintro e w1 ⟨rfl, rfl⟩) | (go_at_call 34; refine IN.out.mono ?_; rintro e w1 ⟨rfl, rfl⟩))
    refine HCL.out.mono ?_
    rintro e w1 ⟨⟨v1, rfl, r1⟩, b1⟩
    obtain ⟨A1, c1, rfl, -⟩ := row_form r1
    have R1 := Lib.hid r1
    clear r1
    go_wp2_with fail
    go_ret
    exact ⟨⟨_, rfl, R1.out⟩, b1⟩
  · rw [if_neg hfd]
    have IN := Lib.hid (in_any fd w false (by simpa using hfd))
    clear h hfd
    go_enter Try.func12, Try.ntmps12
    go_wp2_with (first | (go_at_call 33; refine NO.out.mono ?_; rintro e w1 ⟨rfl, rfl⟩) | (go_at_call 34; refine IN.out.mono ?_; rintro e w1 ⟨rfl, rfl⟩))
    go_ret
    exact ⟨⟨_, rfl, World.ownsRow_nil _ _ _ _⟩, Below.refl _ _⟩
end Go.Proofs.Ytllolfbjmpaamaa
