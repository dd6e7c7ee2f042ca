/- All. -/
import Derived.Test.YtljfnfaljadjdaaDoorQ
namespace Go.Proofs.YtljfnfaljadjdaaDoor
open Go.RowKit Go.Shelf
attribute [local go_sem] Oper.semAt_some
set_option linter.unusedSimpArgs false
set_option linter.unusedVariables false

set_option maxRecDepth 100000 in
set_option maxHeartbeats 2000000 in
theorem appendSeq_in (n : Nat) (hn : 3 ≤ n) (a b Bn : Nat) (w : World) (ha : a < 4294967296) (hb : b < 4294967296) (hS : Sb w Bn a b) :
    CallsIn Fence.wide n Tryd.prog 42 #[.slice none 0 0, .func (.func 43) #[] #[.pointer (some ⟨Bn, 0, none⟩)]] w fun e W' => ∃ v, e = .returned v ∧ W'.ownsRow w.heap.size 3 1 v (L a b).length ((L a b).map (Value.int .i64)) ∧ Below w.heap.size w W' := by
  have h1 : 1 ≤ n := by omega
  obtain ⟨i0, hi, hz0, hz1, hz2⟩ := info_parts info3
  refine callsIn_of_wp_marks Tryd.func42 rfl trivial ?_ rfl
  simp only [Tryd.ntmps42, List.size_toArray, List.length_cons, List.length_nil, Nat.reduceAdd, Nat.reduceSub, Array.replicate_succ, Array.replicate_zero, List.push_toArray, List.append_toArray, List.nil_append, List.cons_append]
  gi_wp2_with fail
  have bO := Boxed.new w 31 (.slice none 0 0)
  have hB0 : Below w.heap.size w (w.alloc (.cells #[.slice none 0 0] 31)) := (Below.refl _ w).alloc (Nat.le_refl _) _
  refine wpIn_rangeFunc_ownG rfl h1 (gf := 43) (lb := #[.pointer (some ⟨Bn, 0, none⟩)]) rfl trivial (enters_of Tryd.func43 (by kernel_rfl) rfl)
    (all_stops (n - 1) (by omega) Bn a b ha hb _ (hS.below hB0 hS.lt)) KB.t (KB.b (by have := hS.lt; simp; omega)) (Below.refl _ _) (fun _ => rfl)
    (fun (pre : List Int) W => (∃ v, Boxed W w.heap.size 31 v ∧ W.ownsRow w.heap.size 3 1 v pre.length (pre.map (Value.int .i64)) ∧ True) ∧ Below w.heap.size w W)
    (fun _ _ _ => False)
    (OwnFrom.and (Own.from (holdsRow_own w.heap.size w.heap.size 31 3 1 (fun pre : List Int => pre.length) (fun pre : List Int => pre.map (Value.int .i64)) (fun _ _ => True)) _) (ownFrom_below (Nat.le_refl _) (by simp)))
    (fun _ _ _ _ _ hs _ _ => hs)
    ⟨⟨_, bO, World.ownsRow_nil _ _ _ _, trivial⟩, hB0⟩
    (fun x => { tmps := #[.slice none 0 0, .func (.func 43) #[] #[.pointer (some ⟨Bn, 0, none⟩)], .pointer (some ⟨w.heap.size, 0, none⟩), undef, .slice none 0 0, .int .i64 x, .func (.func 43) #[] #[.pointer (some ⟨Bn, 0, none⟩)], .int .i64 x, undef, undef, undef, undef, undef], defers := [] }) ?assign ?body ?done ?stop
  case assign =>
    intro l x W K hK
    gi_wp2
    exact hK
  case body =>
    rintro l pre x W ⟨⟨v, hv, hrow, _⟩, hB⟩ hlt
    have hc := hv.cell
    gi_wp2_with (gi_at_builtin; refine wpListIn_append_own _ rfl _ _ 31 rfl w.heap.size 3 i0 (.int .i64 0) 1 8 Tryd.underlying31 hi hz0 hz1 hz2 rfl (by decide) _ _ _ rfl (hrow.alloc _) ⟨W.heap.size, 0, none⟩ 1 1 [.int .i64 x] rfl rfl (cell_one_new _ _ _) (by simp [Value.oneCell']) (by unfold maxLen; omega) (by omega) (by have := hB.size; simp; omega) ?_; intro v' w1 hown' hgrow _; obtain ⟨g', cap', rfl⟩ := ownsRow_succ hown'; obtain ⟨hv1, hv2, hr2, hk2, hb2⟩ := hv.appended (by decide) hrow hB.size (Nat.le_refl _) hown' hgrow; have hc1 := hv1.cell; have hf1 := hv1.frozen)
    exact ⟨hk2.from _, KB.below hb2 hS.lt, ⟨_, hv2, by simpa using hr2, trivial⟩, hB.trans hb2⟩
  case done =>
    rintro D ys W hD rfl ⟨⟨v, hv, hrow, _⟩, hB⟩ hK
    have hc := hv.cell
    gi_wp2
    refine ⟨by simp, .inl ⟨_, _, rfl, run_takeDeferred hK, ?_⟩⟩
    exact ⟨_, results_tmp rfl _ _ _, v, rfl, ownsRow_putObj hrow _ hK rfl, hB.trans (belowK_b (w := w) (Nat.le_refl _) W D _ _ (by simp at hD; omega) hK rfl rfl)⟩
  case stop =>
    rintro D c pre W _ _ h _
    exact h.elim

theorem collect_any (a b Bn : Nat) (w : World) (ha : a < 4294967296) (hb : b < 4294967296) (hS : Sb w Bn a b) :
    Calls Tryd.prog 31 #[.func (.func 43) #[] #[.pointer (some ⟨Bn, 0, none⟩)]] w (RetL (L a b) w) := by
  have H := Lib.hid hS; clear hS
  go_enter Tryd.func31, Tryd.ntmps31
  go_wp2_with fail
  refine ((callsIn_wide (n := 3)).1 (appendSeq_in 3 (Nat.le_refl _) a b Bn w ha hb H.out)).mono ?_
  rintro e w1 ⟨v, rfl, hrow, hbel⟩
  obtain ⟨A, c, rfl, hc⟩ := row_form hrow
  have HR := Lib.hid hrow; clear hrow
  go_wp2
  go_ret
  exact ⟨A, c, rfl, hc, row_ints HR.out, hbel⟩

theorem All_any (a b : Nat) (w : World) (ha : a < 4294967296) (hb : b < 4294967296) :
    Calls Tryd.prog 19 #[.agg #[.int .u32 a, .int .u32 b]] w (RetL (L a b) w) := by
  go_enter Tryd.func19, Tryd.ntmps19
  go_wp2_with fail
  refine (all_any a b _).mono ?_
  rintro e w' ⟨rfl, rfl⟩
  have hs := Sb.new (w.alloc (.cells #[.int .u32 a, .int .u32 b] 24)) a b
  rw [World.size_alloc] at hs
  have H := Lib.hid hs; clear hs
  go_wp2_with fail
  refine (collect_any a b _ _ ha hb H.out).mono ?_
  rintro e w1 ⟨A, c, rfl, hc, hi, hbel⟩
  have HI := Lib.hid hi; clear hi
  go_wp2
  go_ret
  exact ⟨A, c, rfl, hc, HI.out, ((((Below.refl _ _).alloc (Nat.le_refl _) _).alloc (by simp) _).trans (hbel.mono (by simp; omega)))⟩
end Go.Proofs.YtljfnfaljadjdaaDoor
