/- Next. -/
import Derived.RangeFuncFrom
import Derived.Test.YtljfnfaljadjdaaDoorO
namespace Go.Proofs.YtljfnfaljadjdaaDoor
open Go.RowKit Go.Shelf
attribute [local go_sem] Oper.semAt_some
set_option linter.unusedSimpArgs false
set_option linter.unusedVariables false

theorem Boxed.ow {A B : World} {row : Option Nat} {g : Nat} {t : TypeId} {v : Value} (h : Boxed A g t v) (hg : A.grownBy B row) (hr : ∀ r, row = some r → ∃ o : Obj, A.heap[r]? = some o ∧ o.isCells = false) : Boxed B g t v :=
  Go.Boxed.kept h hg (fun e => by obtain ⟨o, ho, hc⟩ := hr g e.symm; rw [show A.heap[g]? = _ from h] at ho; cases ho; cases hc)
theorem Boxed.put {W : World} {g D : Nat} {t : TypeId} {v : Value} {o : Obj} (h : Boxed W g t v) (hK : W.heap[D]? = some o) (ho : o.isCells = false) (o' : Obj) : Boxed (W.putObj D o') g t v :=
  Boxed.ow h (grownBy_putObj' W D o') (fun r e => by cases e; exact ⟨_, hK, ho⟩)
theorem next_none (l : List Int) (fr : Int) (h : ∀ y ∈ l, y < fr) : nextOf l fr = none := by
  unfold nextOf
  rw [List.find?_eq_none]
  intro x hx
  have := h x hx
  simp; omega
theorem next_pre (l q : List Int) (x fr : Int) (hp : q ++ [x] <+: l) (h : ∀ y ∈ q, y < fr) (hx : fr ≤ x) : nextOf l fr = some x := by
  obtain ⟨r, rfl⟩ := hp
  unfold nextOf
  have := next_none q fr h
  unfold nextOf at this
  rw [List.append_assoc, List.find?_append, this]
  simp [hx]

set_option maxRecDepth 100000 in
set_option maxHeartbeats 1000000 in
theorem next_in (n : Nat) (hn : 3 ≤ n) (a b : Nat) (fr : Int) (w : World) (ha : a < 4294967296) (hb : b < 4294967296) :
    CallsIn Fence.wide n Tryd.prog 20 #[.agg #[.int .u32 a, .int .u32 b], .int .i64 fr] w fun e W' => e = .returned (.tuple #[.int .i64 ((nextOf (L a b) fr).getD 0), .bool (nextOf (L a b) fr).isSome]) ∧ Below w.heap.size w W' := by
  have h1 : 1 ≤ n := by omega
  refine callsIn_of_wp_marks Tryd.func20 rfl trivial ?_ rfl
  simp only [Tryd.ntmps20, List.size_toArray, List.length_cons, List.length_nil, Nat.reduceAdd, Nat.reduceSub, Array.replicate_succ, Array.replicate_zero, List.push_toArray, List.append_toArray, List.nil_append, List.cons_append]
  gi_wp2_with fail
  refine ⟨trivial, (callsIn_wide.2 (all_any a b _)).mono ?_⟩
  rintro e w' ⟨rfl, rfl⟩
  gi_wp2_with fail
  obtain ⟨W0, hW0⟩ : ∃ W0, W0 = (((((w.alloc (.cells #[.int .u32 a, .int .u32 b] 24)).alloc (.cells #[.int .i64 fr] 3)).alloc (.cells #[.int .i64 0] 3)).alloc (.cells #[.bool false] 4)).alloc (.cells #[.int .u32 a, .int .u32 b] 24)) := ⟨_, rfl⟩
  have hsz : W0.heap.size = w.heap.size + 5 := by rw [hW0]; simp
  have hB0 : Below w.heap.size w W0 := by rw [hW0]; exact (((((Below.refl _ w).alloc (Nat.le_refl _) _).alloc (by simp) _).alloc (by simp; omega) _).alloc (by simp; omega) _).alloc (by simp; omega) _
  have e1 := Boxed.new (w.alloc (.cells #[.int .u32 a, .int .u32 b] 24)) 3 (.int .i64 fr)
  have e2 := Boxed.new ((w.alloc (.cells #[.int .u32 a, .int .u32 b] 24)).alloc (.cells #[.int .i64 fr] 3)) 3 (.int .i64 0)
  have e3 := Boxed.new (((w.alloc (.cells #[.int .u32 a, .int .u32 b] 24)).alloc (.cells #[.int .i64 fr] 3)).alloc (.cells #[.int .i64 0] 3)) 4 (.bool false)
  simp only [World.size_alloc] at e1 e2 e3
  have c1 : Boxed W0 (w.heap.size + 1) 3 (.int .i64 fr) := by rw [hW0]; exact ((e1.alloc _).alloc _).alloc _
  have c2 : Boxed W0 (w.heap.size + 1 + 1) 3 (.int .i64 0) := by rw [hW0]; exact (e2.alloc _).alloc _
  have c3 : Boxed W0 (w.heap.size + 1 + 1 + 1) 4 (.bool false) := by rw [hW0]; exact e3.alloc _
  have cS : Sb W0 (w.heap.size + 1 + 1 + 1 + 1) a b := by
    rw [hW0]
    have := Sb.new ((((w.alloc (.cells #[.int .u32 a, .int .u32 b] 24)).alloc (.cells #[.int .i64 fr] 3)).alloc (.cells #[.int .i64 0] 3)).alloc (.cells #[.bool false] 4)) a b
    simpa only [World.size_alloc] using this
  rw [← hW0]
  clear hW0 e1 e2 e3
  refine wpIn_rangeFunc_ownF rfl h1 (gf := 43) (lb := #[.pointer (some ⟨w.heap.size + 1 + 1 + 1 + 1, 0, none⟩)]) rfl trivial (enters_of Tryd.func43 (by kernel_rfl) rfl)
    (all_stops (n - 1) (by omega) (w.heap.size + 1 + 1 + 1 + 1) a b ha hb W0 cS) KB.t (KB.b (by omega)) (Below.refl _ _) (fun _ => rfl)
    (fun pre W => ((∀ y ∈ pre, y < fr) ∧ Boxed W (w.heap.size + 1) 3 (.int .i64 fr) ∧ Boxed W (w.heap.size + 1 + 1) 3 (.int .i64 0) ∧ Boxed W (w.heap.size + 1 + 1 + 1) 4 (.bool false)) ∧ Below w.heap.size w W)
    (fun c pre W => (c = .ret ∧ (∃ q x, pre = q ++ [x] ∧ (∀ y ∈ q, y < fr) ∧ fr ≤ x ∧ Boxed W (w.heap.size + 1 + 1) 3 (.int .i64 x)) ∧ Boxed W (w.heap.size + 1 + 1 + 1) 4 (.bool true)) ∧ Below w.heap.size w W)
    ?hI ?hIx ⟨⟨by simp, c1, c2, c3⟩, hB0⟩
    (fun x => { tmps := #[.agg #[.int .u32 a, .int .u32 b], .int .i64 fr, .pointer (some ⟨w.heap.size, 0, none⟩), .pointer (some ⟨w.heap.size + 1, 0, none⟩), .pointer (some ⟨w.heap.size + 1 + 1, 0, none⟩), .pointer (some ⟨w.heap.size + 1 + 1 + 1, 0, none⟩), .int .i64 x, .agg #[.int .u32 a, .int .u32 b], .func (.func 43) #[] #[.pointer (some ⟨w.heap.size + 1 + 1 + 1 + 1, 0, none⟩)], .int .i64 x, undef, undef, undef, undef], defers := [] }) ?assign ?body ?done ?stop
  case hI => exact OwnFrom.and (Own.from (fun s A B row hs hg hr => ⟨hs.1, Boxed.ow hs.2.1 hg hr, Boxed.ow hs.2.2.1 hg hr, Boxed.ow hs.2.2.2 hg hr⟩) _) (ownFrom_below (Nat.le_refl _) (by omega))
  case hIx =>
    intro c
    refine OwnFrom.and (Own.from (fun s A B row hs hg hr => ?_) _) (ownFrom_below (Nat.le_refl _) (by omega))
    obtain ⟨e, ⟨q, x, hq, hy, hx, hb1⟩, hb2⟩ := hs
    exact ⟨e, ⟨q, x, hq, hy, hx, Boxed.ow hb1 hg hr⟩, Boxed.ow hb2 hg hr⟩
  case assign =>
    intro l x W K hK
    gi_wp2
    exact hK
  case body =>
    rintro l pre x W ⟨⟨hp, b1, b2, b3⟩, hB⟩ _
    have k1 := b1.cell; have k2 := b2.cell; have k3 := b3.cell; have f2 := b2.frozen; have f3 := b3.frozen
    by_cases hx : fr ≤ x
    · gi_wp2
      exact ⟨(KeepsOthers.setCell _ _ _).trans (KeepsOthers.setCell _ _ _), ⟨rfl, ⟨pre, x, rfl, hp, hx, (b2.set _).other (by omega) _⟩, (b3.other (by omega) _).set _⟩, (hB.setCell (p := ⟨w.heap.size + 1 + 1, 0, none⟩) (by simp; omega) _).setCell (p := ⟨w.heap.size + 1 + 1 + 1, 0, none⟩) (by simp; omega) _⟩
    · gi_wp2
      exact ⟨KeepsOthers.refl _, rfl, ⟨fun y hy => (List.mem_append.1 hy).elim (hp y) (fun e => by simp at e; omega), b1, b2, b3⟩, hB⟩
  case done =>
    rintro D ys W hD rfl ⟨⟨hp, b1, b2, b3⟩, hB⟩ hK
    have k2 := b2.cell; have k3 := b3.cell; have f2 := b2.frozen; have f3 := b3.frozen
    gi_wp2
    have hK' := ((KeepsOthers.setCell W ⟨w.heap.size + 1 + 1, 0, none⟩ (.int .i64 0)).trans (KeepsOthers.setCell _ ⟨w.heap.size + 1 + 1 + 1, 0, none⟩ (.bool false))).same D _ hK rfl
    refine ⟨by simp, .inl ⟨_, _, rfl, run_takeDeferred hK', ?_⟩⟩
    have c2 := (Boxed.put ((b2.set (.int .i64 0)).other (B' := w.heap.size + 1 + 1 + 1) (by omega) (.bool false)) hK' rfl (.deferred none)).cell
    have c3 := (Boxed.put ((b3.other (B' := w.heap.size + 1 + 1) (by omega) (.int .i64 0)).set (.bool false)) hK' rfl (.deferred none)).cell
    refine ⟨.tuple #[.int .i64 0, .bool false], ?_, by rw [next_none _ _ hp]; rfl, ((hB.setCell (p := ⟨w.heap.size + 1 + 1, 0, none⟩) (by simp; omega) _).setCell (p := ⟨w.heap.size + 1 + 1 + 1, 0, none⟩) (by simp; omega) _).trans (belowK_b (w := w) (Nat.le_refl _) _ D _ _ (by omega) hK' rfl rfl)⟩
    simp [results, Tryd.f20, go_sem, c2, c3]
  case stop =>
    rintro D c pre W hD hpre ⟨⟨rfl, ⟨q, x, rfl, hq, hx, b2⟩, b3⟩, hB⟩ hK
    have k2 := b2.cell; have k3 := b3.cell; have f2 := b2.frozen; have f3 := b3.frozen
    gi_wp2
    refine ⟨by simp, .inl ⟨_, _, rfl, run_takeDeferred hK, ?_⟩⟩
    have c2 := (Boxed.put b2 hK rfl (.deferred none)).cell
    have c3 := (Boxed.put b3 hK rfl (.deferred none)).cell
    refine ⟨.tuple #[.int .i64 x, .bool true], ?_, by rw [next_pre _ _ _ _ hpre hq hx]; rfl, hB.trans (belowK_b (w := w) (Nat.le_refl _) _ D _ _ (by omega) hK rfl rfl)⟩
    simp [results, Tryd.f20, go_sem, c2, c3]

theorem next_any (a b : Nat) (fr : Int) (w : World) (ha : a < 4294967296) (hb : b < 4294967296) :
    Calls Tryd.prog 20 #[.agg #[.int .u32 a, .int .u32 b], .int .i64 fr] w fun e W' => e = .returned (.tuple #[.int .i64 ((nextOf (L a b) fr).getD 0), .bool (nextOf (L a b) fr).isSome]) ∧ Below w.heap.size w W' :=
  (callsIn_wide (n := 3)).1 (next_in 3 (Nat.le_refl _) a b fr w ha hb)
end Go.Proofs.YtljfnfaljadjdaaDoor
