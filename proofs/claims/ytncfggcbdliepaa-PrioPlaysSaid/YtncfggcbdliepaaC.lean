/- Where a number stands: at, Has. -/
import Derived.Test.YtncfggcbdliepaaB
namespace Go.Proofs.Ytncfggcbdliepaa
open Go.RowKit
set_option linter.unusedSimpArgs false
set_option linter.unusedVariables false
set_option maxRecDepth 100000

theorem lookv {w : World} {mb N : Nat} {D : DataW Unit} (h : w.ownsMap Try.prog 3 (plainElem Try.prog 3) mb N D) (x : Int) (hx : (Lit.int .i64 x).wf = true) :
    ∃ c : Int, (Instr.lookup 63 (.map (some mb)) (.int .i64 x) true).run Try.prog w = .ok (.tuple #[.int .i64 c, .bool (Maps.has D (.int .i64 x))]) w ∧ D.atKey (.int .i64 x) (.lit (.int .i64 0)) = .lit (.int .i64 c) := by
  obtain ⟨v, ps, hrun, hv⟩ := h.look_ok key3 Try.underlying63 (zero3 w) (plainElem_int Try.underlying3 (by decide)) (Go.Maps.keyOf_int_mk Try.underlying3 hx)
  obtain ⟨c, rfl, hc, _⟩ := plainElem_int_inv Try.underlying3 hv
  exact ⟨c, hrun, congrArg Prod.fst hc⟩
theorem Qb.look_run {w : World} {g lb mb N : Nat} {D : DataW Unit} {vs : List Value} {m : Nat} {L : List It} (h : Qb w g lb mb N D vs m L) (x : Int) (hx : (Lit.int .i64 x).wf = true) :
    ∃ c : Int, (∀ W : World, W.heap[mb]? = w.heap[mb]? → (Instr.lookup 63 (.map (some mb)) (.int .i64 x) true).run Try.prog W = .ok (.tuple #[.int .i64 c, .bool (look L x).isSome]) W) ∧ ∀ t, look L x = some t → c = t.pr := by
  obtain ⟨c, _, hc⟩ := lookv h.mp x hx
  refine ⟨c, fun W hW => ?_, fun t ht => ?_⟩
  · obtain ⟨c', hr, hc'⟩ := lookv (map_same h.mp hW) x hx
    rw [hc] at hc'
    injection hc' with e; injection e with _ e; subst e
    rw [hr, h.hd x hx]
  · rw [h.ad x t ht] at hc
    injection hc with e; injection e with _ e; exact e.symm

theorem wf64 {x : Int} (h0 : -9223372036854775808 ≤ x) (h1 : x ≤ 9223372036854775807) : (Lit.int .i64 x).wf = true := WalkArith.wf_i64 (by omega)

set_option maxHeartbeats 2000000 in
theorem at_no (w : World) (g : Nat) (S : Nat → Prop) (N m : Nat) (L : List It) (x : Int) (h : Qw w g S N m L) (hx : (Lit.int .i64 x).wf = true) (hl : look L x = none) :
    Calls Try.prog 29 #[.pointer (some ⟨g, 0, none⟩), .int .i64 x] w fun e w' => e = .returned (.tuple #[.int .i64 0, .int .i64 0, .bool false]) ∧ Below w.heap.size w w' := by
  obtain ⟨lb, mb, D, vs, h, hS⟩ := h
  obtain ⟨c, hr, -⟩ := h.look_run x hx
  rw [hl, Option.isSome_none] at hr
  have hg := h.foot_lt (.inl rfl)
  have hmb := h.foot_lt (.inr (.inr (.inl rfl)))
  obtain ⟨m1, m2⟩ := h.m8
  obtain ⟨c0, c1⟩ := h.cells
  have hrun := fun n => hr ((w.alloc (.cells #[.int .i64 x] 3)).drewN n) (Below.heap_alloc _ _ _ hmb)
  have hm0 : ((m : Int) == 0) = false := by simp; omega
  have MA := Lib.hid (fun (W : World) (hb : Below w.heap.size w W) => many_cell g lb m W ((hb.cell (p := ⟨g, 0, none⟩) hg).trans c0))
  clear h hr hS hl hx
  go_enter Try.func29, Try.ntmps29
  go_wp2_with fail
  refine (MA.out _ ((Below.refl _ _).alloc (Nat.le_refl _) _)).mono ?_
  rintro e w' ⟨rfl, rfl⟩
  go_wp2_with fail
  go_quiet (fail)
  go_wp2_with fail
  go_ret3
  exact ⟨rfl, below_drewN ((Below.refl _ _).alloc (Nat.le_refl _) _) _⟩

/-- Where a number that is there stands. -/
theorem spot {m : Nat} {L : List It} (ho : Ok m L) {x : Int} {t : It} (hl : look L x = some t) : 0 ≤ t.pr ∧ t.pr < m ∧ plc (row L t.pr) x < (row L t.pr).length ∧ (row L t.pr)[plc (row L t.pr) x]? = some t := by
  obtain ⟨hm, rfl⟩ := look_some hl
  have hb := ho.b t hm
  have hr : t ∈ row L t.pr := mem_row.2 ⟨hm, rfl⟩
  exact ⟨hb.2.2.2.2.2.2.1, hb.2.2.2.2.2.2.2, plc_lt hr, plc_get (ho.row _) hr⟩

set_option maxHeartbeats 2000000 in
theorem at_yes (w : World) (g : Nat) (S : Nat → Prop) (N m : Nat) (L : List It) (x : Int) (t : It) (h : Qw w g S N m L) (hx : (Lit.int .i64 x).wf = true) (hl : look L x = some t) :
    Calls Try.prog 29 #[.pointer (some ⟨g, 0, none⟩), .int .i64 x] w fun e w' => e = .returned (.tuple #[.int .i64 t.pr, .int .i64 (plc (row L t.pr) x), .bool true]) ∧ Below w.heap.size w w' := by
  obtain ⟨lb, mb, D, vs, h, hS⟩ := h
  obtain ⟨c, hr, hc⟩ := h.look_run x hx
  obtain rfl := hc t hl
  rw [hl, Option.isSome_some] at hr
  obtain ⟨p0, p1, p2, -⟩ := spot h.ok hl
  obtain ⟨p, hp⟩ := Int.eq_ofNat_of_zero_le p0
  rw [hp] at p1 p2 hr ⊢
  have hpm : p < m := by omega
  obtain ⟨v, hv, cv, -, hrow⟩ := h.cell p hpm
  have hg := h.foot_lt (.inl rfl)
  have hlb := h.foot_lt (.inr (.inl rfl))
  have hmb := h.foot_lt (.inr (.inr (.inl rfl)))
  obtain ⟨m1, m2⟩ := h.m8
  obtain ⟨c0, c1⟩ := h.cells
  have hrun := fun n => hr ((w.alloc (.cells #[.int .i64 x] 3)).drewN n) (Below.heap_alloc _ _ _ hmb)
  have hm0 : ((m : Int) == 0) = false := by simp; omega
  have MA := Lib.hid (fun (W : World) (hb : Below w.heap.size w W) => many_cell g lb m W ((hb.cell (p := ⟨g, 0, none⟩) hg).trans c0))
  have IX := Lib.hid (fun (W : World) (hb : Below w.heap.size w W) (xb : Nat) (hx : W.cell? ⟨xb, 0, none⟩ = some (.int .i64 x)) => index_any v (row L p) x xb W (row_same hrow (fun b e => hb.block b (hrow.lt b e).2)) hx p2)
  clear h hr hS hl hx hrow hv p0 hc hp p2
  generalize plc (row L p) x = i at *
  have hmf : ∀ (fn : Fn) (first cap : Array Value) (w : World), (Instr.makeFunc fn first cap).run Try.prog w = .ok (.func fn first cap) w := fun _ _ _ _ => rfl
  go_enter Try.func29, Try.ntmps29
  go_wp2_with fail
  refine (MA.out _ ((Below.refl _ _).alloc (Nat.le_refl _) _)).mono ?_
  rintro e w' ⟨rfl, rfl⟩
  go_wp2_with fail
  go_quiet (fail)
  go_wp2_with fail
  refine (IX.out _ (below_drewN ((Below.refl _ _).alloc (Nat.le_refl _) _) _) _ (by go_simp)).mono ?_
  rintro e w1 ⟨rfl, b1⟩
  go_wp2_with fail
  go_ret3
  exact ⟨rfl, (below_drewN ((Below.refl _ _).alloc (Nat.le_refl _) _) _).trans (b1.mono (by simp))⟩
end Go.Proofs.Ytncfggcbdliepaa
