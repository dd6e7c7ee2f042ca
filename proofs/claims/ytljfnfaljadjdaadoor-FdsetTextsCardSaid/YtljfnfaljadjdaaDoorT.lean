/- Below. -/
import Derived.Test.YtljfnfaljadjdaaDoorR
namespace Go.Proofs.YtljfnfaljadjdaaDoor
open Go.RowKit Go.Shelf
attribute [local go_sem] Oper.semAt_some
set_option linter.unusedSimpArgs false
set_option linter.unusedVariables false

/-- The set c, d is a, b without the numbers of pre that are at least n. -/
structure Cuts (a b : Nat) (n : Int) (pre : List Int) (c d : Nat) : Prop where
  hc : c < 4294967296
  hd : d < 4294967296
  has : ∀ i, i < 64 → hasN c d i = (hasN a b i && !decide ((i : Int) ∈ pre ∧ n ≤ (i : Int)))

theorem Cuts.nil {a b : Nat} {n : Int} (ha : a < 4294967296) (hb : b < 4294967296) : Cuts a b n [] a b := ⟨ha, hb, by simp⟩
theorem Cuts.low {a b : Nat} {n : Int} {pre : List Int} {c d : Nat} (h : Cuts a b n pre c d) {x : Int} (hx : x < n) : Cuts a b n (pre ++ [x]) c d := by
  refine ⟨h.hc, h.hd, fun i hi => ?_⟩
  rw [h.has i hi]
  congr 2
  apply decide_eq_decide.2
  simp only [List.mem_append, List.mem_singleton]
  constructor
  · rintro ⟨h1, h2⟩; exact ⟨.inl h1, h2⟩
  · rintro ⟨h1 | h1, h2⟩
    · exact ⟨h1, h2⟩
    · omega
theorem Cuts.far {a b : Nat} {n : Int} {pre : List Int} {c d : Nat} (h : Cuts a b n pre c d) {x : Int} (hx : x < 0 ∨ 64 ≤ x) : Cuts a b n (pre ++ [x]) c d := by
  refine ⟨h.hc, h.hd, fun i hi => ?_⟩
  rw [h.has i hi]
  congr 2
  apply decide_eq_decide.2
  simp only [List.mem_append, List.mem_singleton]
  constructor
  · rintro ⟨h1, h2⟩; exact ⟨.inl h1, h2⟩
  · rintro ⟨h1 | h1, h2⟩
    · exact ⟨h1, h2⟩
    · omega
theorem woA_lt (c fd : Nat) (h : c < 4294967296) : woA c fd < 4294967296 := by unfold woA; split; exact and_lt _ _ h; exact h
theorem woB_lt (c fd : Nat) (h : c < 4294967296) : woB c fd < 4294967296 := by unfold woB; split; exact h; exact and_lt _ _ h
theorem Cuts.cut {a b : Nat} {n : Int} {pre : List Int} {c d : Nat} (h : Cuts a b n pre c d) {x : Int} (h0 : 0 ≤ x) (h1 : x < 64) (hx : n ≤ x) : Cuts a b n (pre ++ [x]) (woA c x.toNat) (woB d x.toNat) := by
  refine ⟨woA_lt _ _ h.hc, woB_lt _ _ h.hd, fun i hi => ?_⟩
  rw [has_wo _ _ _ _ (by omega) hi, h.has i hi, Bool.eq_iff_iff]
  have e : ((x.toNat : Nat) : Int) = x := by omega
  simp only [e, Bool.and_eq_true, Bool.not_eq_true', decide_eq_false_iff_not, List.mem_append, List.mem_singleton]
  constructor
  · rintro ⟨⟨h1, h2⟩, h3⟩; exact ⟨h1, fun ⟨h4, h5⟩ => h4.elim (fun h6 => h2 ⟨h6, h5⟩) h3⟩
  · rintro ⟨h1, h2⟩; exact ⟨⟨h1, fun ⟨h4, h5⟩ => h2 ⟨.inl h4, h5⟩⟩, fun h4 => h2 ⟨.inr h4, by omega⟩⟩
theorem Cuts.all {a b : Nat} {n : Int} {c d : Nat} (h : Cuts a b n (L a b) c d) : ∀ i, i < 64 → hasN c d i = (hasN a b i && decide ((i : Int) < n)) := by
  intro i hi
  rw [h.has i hi]
  cases e : hasN a b i
  · rfl
  · simp only [Bool.true_and]
    have : (i : Int) ∈ L a b := by unfold L; rw [mem_lst]; exact ⟨i, hi, e, rfl⟩
    simp only [this, true_and]
    rw [Bool.eq_iff_iff]; simp

theorem Sb.ow {A B : World} {row : Option Nat} {g a b : Nat} (h : Sb A g a b) (hg : A.grownBy B row) (hr : ∀ r, row = some r → ∃ o : Obj, A.heap[r]? = some o ∧ o.isCells = false) : Sb B g a b :=
  (hg.block g h.lt (fun e => by obtain ⟨o, ho, hc⟩ := hr g e.symm; rw [show A.heap[g]? = _ from h] at ho; cases ho; cases hc)).trans h
theorem Sb.putObj {W : World} {g D a b : Nat} {o : Obj} (h : Sb W g a b) (hK : W.heap[D]? = some o) (ho : o.isCells = false) (o' : Obj) : Sb (W.putObj D o') g a b :=
  h.ow (grownBy_putObj' W D o') (fun r e => by cases e; exact ⟨_, hK, ho⟩)
theorem keeps_below {w w' : World} {B : Nat} (h : Below w.heap.size w w') : KeepsOthers w w' := KeepsOthers.of_grownBy (grown_of_below h none) (fun j o e => by cases e)
theorem keeps_two (W : World) (g : Nat) (u v : Value) : KeepsOthers W ((W.setCell ⟨g, 0, none⟩ u).setCell ⟨g, 1, none⟩ v) := (KeepsOthers.setCell _ _ _).trans (KeepsOthers.setCell _ _ _)

theorem Boxed.two {W : World} {g B : Nat} {t : TypeId} {x : Value} (h : Boxed W B t x) (u v : Value) (hne : B ≠ g) : Boxed ((W.setCell ⟨g, 0, none⟩ u).setCell ⟨g, 1, none⟩ v) B t x :=
  (Below.heap_setCell _ _ _ B hne).trans ((Below.heap_setCell _ _ _ B hne).trans h)

set_option maxRecDepth 100000 in
set_option maxHeartbeats 2000000 in
theorem below_in (n : Nat) (hn : 3 ≤ n) (a b : Nat) (m : Int) (w : World) (ha : a < 4294967296) (hb : b < 4294967296) :
    CallsIn Fence.wide n Tryd.prog 21 #[.agg #[.int .u32 a, .int .u32 b], .int .i64 m] w fun e W' => ∃ c d, e = .returned (sv c d) ∧ Cuts a b m (L a b) c d ∧ Below w.heap.size w W' := by
  have h1 : 1 ≤ n := by omega
  refine callsIn_of_wp_marks Tryd.func21 rfl trivial ?_ rfl
  simp only [Tryd.ntmps21, List.size_toArray, List.length_cons, List.length_nil, Nat.reduceAdd, Nat.reduceSub, Array.replicate_succ, Array.replicate_zero, List.push_toArray, List.append_toArray, List.nil_append, List.cons_append]
  gi_wp2_with fail
  refine ⟨trivial, (callsIn_wide.2 (all_any a b _)).mono ?_⟩
  rintro e w' ⟨rfl, rfl⟩
  gi_wp2_with fail
  obtain ⟨W0, hW0⟩ : ∃ W0, W0 = ((((w.alloc (.cells #[.int .u32 a, .int .u32 b] 24)).alloc (.cells #[.int .i64 m] 3)).alloc (.cells #[.int .u32 0, .int .u32 0] 24)).alloc (.cells #[.int .u32 a, .int .u32 b] 24)) := ⟨_, rfl⟩
  have hsz : W0.heap.size = w.heap.size + 4 := by rw [hW0]; simp
  have hB0 : Below w.heap.size w W0 := by rw [hW0]; exact ((((Below.refl _ w).alloc (Nat.le_refl _) _).alloc (by simp) _).alloc (by simp; omega) _).alloc (by simp; omega) _
  have q0 := Sb.new w a b
  have q1 := Boxed.new (w.alloc (.cells #[.int .u32 a, .int .u32 b] 24)) 3 (.int .i64 m)
  have q2 := Sb.new ((w.alloc (.cells #[.int .u32 a, .int .u32 b] 24)).alloc (.cells #[.int .i64 m] 3)) 0 0
  have q3 := Sb.new (((w.alloc (.cells #[.int .u32 a, .int .u32 b] 24)).alloc (.cells #[.int .i64 m] 3)).alloc (.cells #[.int .u32 0, .int .u32 0] 24)) a b
  simp only [World.size_alloc] at q1 q2 q3
  have c0 : Sb W0 w.heap.size a b := by rw [hW0]; exact ((q0.below ((Below.refl _ _).alloc (Nat.le_refl _) _) q0.lt).below ((Below.refl _ _).alloc (Nat.le_refl _) _) (by simp; omega)).below ((Below.refl _ _).alloc (Nat.le_refl _) _) (by simp; omega)
  have c1 : Boxed W0 (w.heap.size + 1) 3 (.int .i64 m) := by rw [hW0]; exact (q1.alloc _).alloc _
  have c2 : Sb W0 (w.heap.size + 1 + 1) 0 0 := by rw [hW0]; exact q2.below ((Below.refl _ _).alloc (Nat.le_refl _) _) (by simp)
  have c3 : Sb W0 (w.heap.size + 1 + 1 + 1) a b := by rw [hW0]; exact q3
  rw [← hW0]
  clear hW0 q0 q1 q2 q3
  refine wpIn_rangeFunc_ownF rfl h1 (gf := 43) (lb := #[.pointer (some ⟨w.heap.size + 1 + 1 + 1, 0, none⟩)]) rfl trivial (enters_of Tryd.func43 (by kernel_rfl) rfl)
    (all_stops (n - 1) (by omega) (w.heap.size + 1 + 1 + 1) a b ha hb W0 c3) KB.t (KB.b (by omega)) (Below.refl _ _) (fun _ => rfl)
    (fun pre W => ((∃ c d, Cuts a b m pre c d ∧ Sb W w.heap.size c d) ∧ Boxed W (w.heap.size + 1) 3 (.int .i64 m) ∧ Sb W (w.heap.size + 1 + 1) 0 0 ∧ Sb W (w.heap.size + 1 + 1 + 1) a b) ∧ Below w.heap.size w W)
    (fun _ _ _ => False)
    ?hI (fun _ _ _ _ _ hs _ _ => hs) ⟨⟨⟨a, b, Cuts.nil ha hb, c0⟩, c1, c2, c3⟩, hB0⟩
    (fun x => { tmps := #[.agg #[.int .u32 a, .int .u32 b], .int .i64 m, .pointer (some ⟨w.heap.size, 0, none⟩), .pointer (some ⟨w.heap.size + 1, 0, none⟩), .pointer (some ⟨w.heap.size + 1 + 1, 0, none⟩), .int .i64 x, .agg #[.int .u32 a, .int .u32 b], .func (.func 43) #[] #[.pointer (some ⟨w.heap.size + 1 + 1 + 1, 0, none⟩)], .int .i64 x, undef, undef, undef, undef, undef, undef, undef], defers := [] }) ?assign ?body ?done ?stop
  case hI =>
    refine OwnFrom.and (Own.from (fun s A B row hs hg hr => ?_) _) (ownFrom_below (Nat.le_refl _) (by omega))
    obtain ⟨⟨c, d, hc, hs⟩, h2, h3, h4⟩ := hs
    exact ⟨⟨c, d, hc, hs.ow hg hr⟩, Boxed.ow h2 hg hr, h3.ow hg hr, h4.ow hg hr⟩
  case assign =>
    intro l x W K hK
    gi_wp2
    exact hK
  case body =>
    rintro l pre x W ⟨⟨⟨c, d, hC, hs⟩, b1, s2, s3⟩, hB⟩ _
    have k1 := b1.cell
    obtain ⟨x0, x1, x2, x3⟩ := hs.full
    have hl := hs.lt
    have hl1 := b1.lt
    have hl2 := s2.lt
    have hsb := hB.size
    have hl3 := s3.lt
    by_cases hx : m ≤ x
    · obtain ⟨c', d', hC1, hW⟩ : ∃ c' d', Cuts a b m (pre ++ [x]) c' d' ∧ ∀ w2, Calls Tryd.prog 12 #[.agg #[.int .u32 c, .int .u32 d], .int .i64 x] w2 fun e w' => e = .returned (sv c' d') ∧ Below w2.heap.size w2 w' := by
        by_cases hin : 0 ≤ x ∧ x < 64
        · exact ⟨_, _, hC.cut hin.1 hin.2 hx, fun w2 => without_yes c d x w2 hC.hc hC.hd hin.1 hin.2⟩
        · exact ⟨c, d, hC.far (by omega), fun w2 => without_no c d x w2 (by omega)⟩
      have HW := Lib.hid hW; clear hW
      gi_wp2_with fail
      refine ⟨trivial, fun _ => by omega, ?_⟩
      refine (CallsIn.inRound l (callsIn_wide.2 (HW.out W))).mono ?_
      rintro e w1 ⟨rfl, b⟩
      have S1 := hs.below b hl
      obtain ⟨y0, y1, y2, y3⟩ := S1.full
      simp only [sv]
      gi_wp2_with fail
      refine ⟨(keeps_below (B := 0) b).trans (keeps_two _ _ _ _), ?_, ⟨⟨c', d', hC1, S1.put _ _⟩, Boxed.two (Go.Boxed.kept b1 (grown_of_below b none) (by simp)) _ _ (by omega), (s2.below b hl2).other _ _ (by omega), (s3.below b hl3).other _ _ (by omega)⟩, ?_⟩
      · exact KB.t (KB.below b hl3) (KB.t (KB.set _ _ _ (by simp; omega)) (KB.set _ _ _ (by simp; omega)))
      · exact ((hB.trans (b.mono hsb)).setCell (p := ⟨w.heap.size, 0, none⟩) (by simp) _).setCell (p := ⟨w.heap.size, 1, none⟩) (by simp) _
    · gi_wp2_with fail
      exact ⟨KeepsOthers.refl _, rfl, ⟨⟨c, d, hC.low (by omega), hs⟩, b1, s2, s3⟩, hB⟩
  case done =>
    rintro D ys W hD rfl ⟨⟨⟨c, d, hC, hs⟩, b1, s2, s3⟩, hB⟩ hK
    obtain ⟨x0, x1, x2, x3⟩ := hs.full
    obtain ⟨y0, y1, y2, y3⟩ := s2.full
    gi_wp2
    have hK' := (keeps_two W (w.heap.size + 1 + 1) (.int .u32 c) (.int .u32 d)).same D _ hK rfl
    refine ⟨by simp, .inl ⟨_, _, rfl, run_takeDeferred hK', ?_⟩⟩
    obtain ⟨f0, f1⟩ := ((s2.put c d).putObj hK' rfl (.deferred none)).cells
    refine ⟨.agg #[.int .u32 c, .int .u32 d], ?_, c, d, rfl, hC, ?_⟩
    · simp [results, Tryd.f21, go_sem, f0, f1]
    · exact ((hB.setCell (p := ⟨w.heap.size + 1 + 1, 0, none⟩) (by simp; omega) _).setCell (p := ⟨w.heap.size + 1 + 1, 1, none⟩) (by simp; omega) _).trans (belowK_b (w := w) (Nat.le_refl _) _ D _ _ (by omega) hK' rfl rfl)
  case stop =>
    rintro D c pre W _ _ h _
    exact h.elim

theorem below_any (a b : Nat) (m : Int) (w : World) (ha : a < 4294967296) (hb : b < 4294967296) :
    Calls Tryd.prog 21 #[.agg #[.int .u32 a, .int .u32 b], .int .i64 m] w fun e W' => ∃ c d, e = .returned (sv c d) ∧ Cuts a b m (L a b) c d ∧ Below w.heap.size w W' :=
  (callsIn_wide (n := 3)).1 (below_in 3 (Nat.le_refl _) a b m w ha hb)
theorem Cuts.L {a b : Nat} {n : Int} {c d : Nat} (h : Cuts a b n (L a b) c d) : YtljfnfaljadjdaaDoor.L c d = belowOf (YtljfnfaljadjdaaDoor.L a b) n := by
  unfold YtljfnfaljadjdaaDoor.L
  rw [lst_congr _ _ 64 h.all]
  unfold lst belowOf
  rw [List.filter_map, List.filter_filter]
  congr 1
  apply List.filter_congr
  intro x _
  simp [Bool.and_comm]
end Go.Proofs.YtljfnfaljadjdaaDoor
