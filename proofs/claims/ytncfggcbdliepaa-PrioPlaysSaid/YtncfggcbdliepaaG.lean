/- Least, Len. -/
import Derived.Test.YtncfggcbdliepaaF
namespace Go.Proofs.Ytncfggcbdliepaa
open Go.RowKit Go.Shelf
attribute [local go_sem] Oper.semAt_some
set_option linter.unusedSimpArgs false
set_option linter.unusedVariables false
set_option maxRecDepth 100000

theorem wpIn_scope_wide {n : Nat} {P : Program} {Q : Exit → Act → World → Prop} {a : Act} {w : World} {c : Code} (h : c.wpIn Fence.wide n P (Exit.noGoto Q) a w) : (Code.scope c).wpIn Fence.wide n P Q a w := wpIn_wide.2 (wp_scope_straight (wpIn_wide.1 h))
theorem Boxed.ow {A B : World} {row : Option Nat} {g : Nat} {t : TypeId} {v : Value} (h : Boxed A g t v) (hg : A.grownBy B row) (hr : ∀ r, row = some r → ∃ o : Obj, A.heap[r]? = some o ∧ o.isCells = false) : Boxed B g t v :=
  Go.Boxed.kept h hg (fun e => by obtain ⟨o, ho, hc⟩ := hr g e.symm; rw [show A.heap[g]? = _ from h] at ho; cases ho; cases hc)
theorem Boxed.put {W : World} {g D : Nat} {t : TypeId} {v : Value} {o : Obj} (h : Boxed W g t v) (hK : W.heap[D]? = some o) (ho : o.isCells = false) (o' : Obj) : Boxed (W.putObj D o') g t v :=
  Boxed.ow h (grownBy_putObj' W D o') (fun r e => by cases e; exact ⟨_, hK, ho⟩)

theorem queues_any (g : Nat) (w : World) : Calls Try.prog 30 #[.pointer (some ⟨g, 0, none⟩)] w fun e w' => e = .returned (.func (.func 36) #[] #[.pointer (some ⟨w.heap.size, 0, none⟩)]) ∧ w' = w.alloc (.cells #[.pointer (some ⟨g, 0, none⟩)] 24) := by
  go_enter Try.func30, Try.ntmps30
  go_wp2
  go_ret
  exact ⟨rfl, rfl⟩

theorem iter_stops (n : Nat) (hn : 1 ≤ n) (Bn g lb mb m : Nat) (vs : List Value) (nr : Nat → Nat) (hm : m ≤ 8) (hvs : vs.length = m) (hf : ∀ p v, vs[p]? = some v → ∃ A c, v = .slice A (nr p) c ∧ nr p ≤ 100000) (w : World) (hS : Src w Bn g lb mb m vs) :
    SeqStopsK Fence.wide n Try.prog 36 #[.pointer (some ⟨Bn, 0, none⟩)] (fun x : Nat => #[.int .i64 (x : Int), vs.getD x (.slice none 0 0)]) (KQ Bn g lb) (fun xs => xs = lst (fun p => decide (0 < nr p)) m) (fun pre => pre <+: lst (fun p => decide (0 < nr p)) m) 8 w :=
  fun l J Jx W hW hJ _ hY h0 => iter_in n hn l Bn g lb mb m vs nr hm hvs hf J Jx hY W (hS.kept (KQ.below hW hS.lt.1 hS.lt.2.1 hS.lt.2.2)) hJ h0

theorem Qb.src {w : World} {g lb mb N : Nat} {D : DataW Unit} {vs : List Value} {m : Nat} {L : List It} (h : Qb w g lb mb N D vs m L) (hN : N ≤ 100000) : ∀ (p : Nat) (v : Value), vs[p]? = some v → ∃ A c, v = .slice A (row L p).length c ∧ (row L p).length ≤ 100000 := fun p v hv => by
  obtain ⟨A, c, e, _⟩ := row_form (h.r p v hv)
  exact ⟨A, c, e, by have := row_len L p; have := h.ln; omega⟩
/-- The first row with items is the least's. -/
theorem lst_first {m : Nat} {L : List It} (ho : Ok m L) {p : Nat} (h : [p] <+: lst (fun p : Nat => decide (0 < (row L p).length)) m) : least L = p := by
  have hmem : p ∈ lst (fun p : Nat => decide (0 < (row L p).length)) m := h.subset (by simp)
  obtain ⟨r, hr⟩ := h
  simp [lst] at hmem
  refine least_first ho (fun e => by rw [e] at hmem; simp at hmem) (fun k hk => ?_)
  by_cases e : row L k = []
  · exact e
  · exfalso
    have hk2 : k ∈ lst (fun p : Nat => decide (0 < (row L p).length)) m := by
      simp [lst]
      exact ⟨by omega, List.length_pos_iff.2 e⟩
    have hs : List.Pairwise (· < ·) (lst (fun p : Nat => decide (0 < (row L p).length)) m) := (List.pairwise_lt_range).filter _
    rw [← hr] at hs hk2
    simp at hs hk2
    rcases hk2 with rfl | hk2
    · omega
    · have := hs.1 k hk2; omega
theorem lst_nil {m : Nat} {L : List It} (ho : Ok m L) (h : lst (fun p : Nat => decide (0 < (row L p).length)) m = []) : L = [] := by
  refine least_none ho (fun k hk => ?_)
  unfold lst at h
  rw [List.filter_eq_nil_iff] at h
  have := h k (by simpa using hk)
  simpa using this

set_option maxHeartbeats 4000000 in
theorem least_in (n : Nat) (hn : 3 ≤ n) (w : World) (g : Nat) (S : Nat → Prop) (N m : Nat) (L : List It) (h : Qw w g S N m L) (hN : N ≤ 100000) :
    CallsIn Fence.wide n Try.prog 12 #[.pointer (some ⟨g, 0, none⟩)] w fun e W' => e = .returned (.int .i64 (least L)) ∧ Below w.heap.size w W' := by
  have h1 : 1 ≤ n := by omega
  obtain ⟨lb, mb, D, vs, h, hS⟩ := h
  have hok := h.ok
  have hg := h.foot_lt (.inl rfl)
  have hlb := h.foot_lt (.inr (.inl rfl))
  have hq := h.q
  have hl := h.l
  have hvs := h.vl
  have hm := h.m8.2
  have HF := Lib.hid (h.src hN)
  have LN := Lib.hid (fun e => lst_nil hok e)
  have LF := Lib.hid (fun p e => lst_first (p := p) hok e)
  clear h hS hok
  refine callsIn_of_wp_marks Try.func12 rfl trivial ?_ rfl
  simp only [Try.ntmps12, List.size_toArray, List.length_cons, List.length_nil, Nat.reduceAdd, Nat.reduceSub, Array.replicate_succ, Array.replicate_zero, List.push_toArray, List.append_toArray, List.nil_append, List.cons_append]
  gi_wp2_with fail
  refine wpIn_scope_wide ?_
  gi_wp2_with fail
  refine wpIn_label ?_
  gi_wp2_with fail
  refine ⟨trivial, (callsIn_wide.2 (queues_any g _)).mono ?_⟩
  rintro e w' ⟨rfl, rfl⟩
  gi_wp2_with fail
  obtain ⟨W0, hW0⟩ : ∃ W0, W0 = ((w.alloc (.cells #[.int .i64 (-1)] 3)).alloc (.cells #[.pointer (some ⟨g, 0, none⟩)] 24)) := ⟨_, rfl⟩
  have hsz : W0.heap.size = w.heap.size + 2 := by rw [hW0]; simp
  have hB0 : Below w.heap.size w W0 := by rw [hW0]; exact ((Below.refl _ w).alloc (Nat.le_refl _) _).alloc (by simp) _
  have c1 : Boxed W0 w.heap.size 3 (.int .i64 (-1)) := by rw [hW0]; exact (Boxed.new w 3 (.int .i64 (-1))).alloc _
  have c2 : Boxed W0 (w.heap.size + 1) 24 (.pointer (some ⟨g, 0, none⟩)) := by
    have := Boxed.new (w.alloc (.cells #[.int .i64 (-1)] 3)) 24 (.pointer (some ⟨g, 0, none⟩))
    rw [World.size_alloc] at this
    rw [hW0]; exact this
  have hsrc : Src W0 (w.heap.size + 1) g lb mb m vs := ⟨c2, (hB0.block _ hg).trans hq, (hB0.block _ hlb).trans hl⟩
  rw [← hW0]
  clear hW0 hq hl
  have LFm := fun pre (hp : pre <+: lst (fun p : Nat => decide (0 < (row L p).length)) m) (p : Nat) (e : pre = [p]) => LF.out p (e ▸ hp)
  have LM := Lib.hid LFm
  clear LFm
  refine wpIn_rangeFunc_ownF rfl h1 (gf := 36) (lb := #[.pointer (some ⟨w.heap.size + 1, 0, none⟩)]) rfl trivial (enters_of Try.func36 (by kernel_rfl) rfl)
    (iter_stops (n - 1) (by omega) (w.heap.size + 1) g lb mb m vs (fun p => (row L (p : Nat)).length) hm hvs HF.out W0 hsrc) KQ.t (KQ.b (by omega) (by omega) (by omega)) (Below.refl _ _) (fun _ => rfl)
    (fun pre W => (pre = [] ∧ Boxed W w.heap.size 3 (.int .i64 (-1))) ∧ Below w.heap.size w W)
    (fun c pre W => (c = .exit 0 ∧ ∃ p : Nat, pre = [p] ∧ Boxed W w.heap.size 3 (.int .i64 (p : Int))) ∧ Below w.heap.size w W)
    ?hI ?hIx ⟨⟨rfl, c1⟩, hB0⟩
    (fun x => { tmps := #[.pointer (some ⟨g, 0, none⟩), undef, .int .i64 0, .pointer (some ⟨w.heap.size, 0, none⟩), .int .i64 (x : Int), .pointer (some ⟨g, 0, none⟩), .func (.func 36) #[] #[.pointer (some ⟨w.heap.size + 1, 0, none⟩)], .int .i64 (x : Int), vs.getD x (.slice none 0 0), undef, undef], defers := [] }) ?assign ?body ?done ?stop
  case hI => exact OwnFrom.and (Own.from (fun s A B row hs hg hr => ⟨hs.1, Boxed.ow hs.2 hg hr⟩) _) (ownFrom_below (Nat.le_refl _) (by omega))
  case hIx =>
    intro c
    refine OwnFrom.and (Own.from (fun s A B row hs hg hr => ?_) _) (ownFrom_below (Nat.le_refl _) (by omega))
    obtain ⟨e, p, hp, hb⟩ := hs
    exact ⟨e, p, hp, Boxed.ow hb hg hr⟩
  case assign =>
    intro l x W K hK
    gi_wp2
    exact hK
  case body =>
    rintro l pre x W ⟨⟨rfl, b1⟩, hB⟩ _
    have k1 := b1.cell; have f1 := b1.frozen
    gi_wp2
    exact ⟨KeepsOthers.setCell _ _ _, ⟨rfl, x, rfl, b1.set _⟩, hB.setCell (p := ⟨w.heap.size, 0, none⟩) (by simp) _⟩
  case done =>
    rintro D ys W hD rfl ⟨⟨hp, b1⟩, hB⟩ hK
    have k1 := b1.cell
    have e0 := LN.out hp
    gi_wp2
    rw [Exit.noGoto_ret]
    refine ⟨by simp, .inl ⟨_, _, rfl, run_takeDeferred hK, ?_⟩⟩
    exact ⟨_, results_tmp rfl _ _ _, by rw [e0]; rfl, hB.trans (belowK_b (w := w) (Nat.le_refl _) _ D _ _ (by omega) hK rfl rfl)⟩
  case stop =>
    rintro D c pre W hD hpre ⟨⟨rfl, p, hp, b1⟩, hB⟩ hK
    have e0 := LM.out pre hpre p hp
    have k1 := b1.cell
    gi_wp2
    rw [Exit.noGoto_ret]
    refine ⟨by simp, .inl ⟨_, _, rfl, run_takeDeferred hK, ?_⟩⟩
    exact ⟨_, results_tmp rfl _ _ _, by rw [e0]; rfl, hB.trans (belowK_b (w := w) (Nat.le_refl _) _ D _ _ (by omega) hK rfl rfl)⟩
theorem Least_any (w : World) (g : Nat) (S : Nat → Prop) (N m : Nat) (L : List It) (h : Qw w g S N m L) (hN : N ≤ 100000) :
    Calls Try.prog 12 #[.pointer (some ⟨g, 0, none⟩)] w fun e W' => e = .returned (.int .i64 (least L)) ∧ Below w.heap.size w W' :=
  (callsIn_wide (n := 3)).1 (least_in 3 (Nat.le_refl _) w g S N m L h hN)

theorem sum_pos (f : Nat → Nat) : ∀ l : List Nat, ((l.filter fun p => decide (0 < f p)).map f).sum = (l.map f).sum
  | [] => rfl
  | a :: r => by
    by_cases h : 0 < f a
    · simp [h, sum_pos f r]
    · have : f a = 0 := by omega
      simp [this, sum_pos f r]
theorem sum_le (f : Nat → Nat) (b : Nat) (h : ∀ p, f p ≤ b) : ∀ l : List Nat, (l.map f).sum ≤ l.length * b
  | [] => by simp
  | a :: r => by
    have := sum_le f b h r
    have := h a
    simp only [List.map_cons, List.sum_cons, List.length_cons, Nat.add_mul]
    omega

set_option maxHeartbeats 4000000 in
theorem len_in (n : Nat) (hn : 3 ≤ n) (w : World) (g : Nat) (S : Nat → Prop) (N m : Nat) (L : List It) (h : Qw w g S N m L) (hN : N ≤ 100000) :
    CallsIn Fence.wide n Try.prog 11 #[.pointer (some ⟨g, 0, none⟩)] w fun e W' => e = .returned (.int .i64 L.length) ∧ Below w.heap.size w W' := by
  have h1 : 1 ≤ n := by omega
  obtain ⟨lb, mb, D, vs, h, hS⟩ := h
  have hok := h.ok
  have hg := h.foot_lt (.inl rfl)
  have hlb := h.foot_lt (.inr (.inl rfl))
  have hq := h.q
  have hl := h.l
  have hvs := h.vl
  have hm := h.m8.2
  have hln := h.ln
  have HF := Lib.hid (h.src hN)
  have hx : ∀ x : Nat, (∃ A c, vs.getD x (.slice none 0 0) = .slice A (row L x).length c) ∧ (row L x).length ≤ 100000 := fun x => by
    have hb : (row L x).length ≤ 100000 := by have := row_len L x; omega
    refine ⟨?_, hb⟩
    by_cases hxm : x < m
    · have hxv : x < vs.length := by omega
      obtain ⟨A, c, e, _⟩ := HF.out x _ (List.getElem?_eq_getElem hxv)
      exact ⟨A, c, by rw [← e]; simp [List.getD, hxv]⟩
    · refine ⟨none, 0, ?_⟩
      rw [row_out hok (by omega)]
      simp [List.getD, List.getElem?_eq_none (show vs.length ≤ x by omega)]
  have HX := Lib.hid hx
  have hsum : ((lst (fun p : Nat => decide (0 < (row L p).length)) m).map fun p : Nat => (row L p).length).sum = L.length := by
    unfold lst
    rw [sum_pos (fun p : Nat => (row L p).length)]
    exact lens_all (fun t ht => (hok.b t ht).2.2.2.2.2.2)
  have HS := Lib.hid hsum
  have hsl : ∀ l : List Nat, (l.map fun p : Nat => (row L p).length).sum ≤ l.length * 100000 := sum_le _ _ (fun p => (hx p).2)
  have HSL := Lib.hid hsl
  clear h hS hok hx hsum hsl
  refine callsIn_of_wp_marks Try.func11 rfl trivial ?_ rfl
  simp only [Try.ntmps11, List.size_toArray, List.length_cons, List.length_nil, Nat.reduceAdd, Nat.reduceSub, Array.replicate_succ, Array.replicate_zero, List.push_toArray, List.append_toArray, List.nil_append, List.cons_append]
  gi_wp2_with fail
  refine ⟨trivial, (callsIn_wide.2 (queues_any g _)).mono ?_⟩
  rintro e w' ⟨rfl, rfl⟩
  gi_wp2_with fail
  obtain ⟨W0, hW0⟩ : ∃ W0, W0 = ((w.alloc (.cells #[.int .i64 0] 3)).alloc (.cells #[.pointer (some ⟨g, 0, none⟩)] 24)) := ⟨_, rfl⟩
  have hsz : W0.heap.size = w.heap.size + 2 := by rw [hW0]; simp
  have hB0 : Below w.heap.size w W0 := by rw [hW0]; exact ((Below.refl _ w).alloc (Nat.le_refl _) _).alloc (by simp) _
  have c1 : Boxed W0 w.heap.size 3 (.int .i64 0) := by rw [hW0]; exact (Boxed.new w 3 (.int .i64 0)).alloc _
  have c2 : Boxed W0 (w.heap.size + 1) 24 (.pointer (some ⟨g, 0, none⟩)) := by
    have := Boxed.new (w.alloc (.cells #[.int .i64 0] 3)) 24 (.pointer (some ⟨g, 0, none⟩))
    rw [World.size_alloc] at this
    rw [hW0]; exact this
  have hsrc : Src W0 (w.heap.size + 1) g lb mb m vs := ⟨c2, (hB0.block _ hg).trans hq, (hB0.block _ hlb).trans hl⟩
  rw [← hW0]
  clear hW0 hq hl
  refine wpIn_rangeFunc_ownF rfl h1 (gf := 36) (lb := #[.pointer (some ⟨w.heap.size + 1, 0, none⟩)]) rfl trivial (enters_of Try.func36 (by kernel_rfl) rfl)
    (iter_stops (n - 1) (by omega) (w.heap.size + 1) g lb mb m vs (fun p => (row L (p : Nat)).length) hm hvs HF.out W0 hsrc) KQ.t (KQ.b (by omega) (by omega) (by omega)) (Below.refl _ _) (fun _ => rfl)
    (fun pre W => (Boxed W w.heap.size 3 (.int .i64 ((pre.map fun p : Nat => (row L p).length).sum : Nat))) ∧ Below w.heap.size w W)
    (fun _ _ _ => False)
    ?hI (fun _ _ _ _ _ hs _ _ => hs) ⟨c1, hB0⟩
    (fun x => { tmps := #[.pointer (some ⟨g, 0, none⟩), undef, .int .i64 0, .pointer (some ⟨w.heap.size, 0, none⟩), undef, vs.getD x (.slice none 0 0), .pointer (some ⟨g, 0, none⟩), .func (.func 36) #[] #[.pointer (some ⟨w.heap.size + 1, 0, none⟩)], .int .i64 (x : Int), vs.getD x (.slice none 0 0), undef, undef, undef, undef, undef], defers := [] }) ?assign ?body ?done ?stop
  case hI => exact OwnFrom.and (Own.from (I := fun (pre : List Nat) W => Boxed W w.heap.size 3 (.int .i64 ((pre.map fun p : Nat => (row L p).length).sum : Nat))) (fun s A B row hs hg hr => Boxed.ow hs hg hr) _) (ownFrom_below (Nat.le_refl _) (by omega))
  case assign =>
    intro l x W K hK
    gi_wp2
    exact hK
  case body =>
    rintro l pre x W ⟨b1, hB⟩ hlt
    have k1 := b1.cell; have f1 := b1.frozen
    obtain ⟨⟨A, c, hx1⟩, hx2⟩ := HX.out x
    have hs := HSL.out pre
    have hst : ((pre ++ [x]).map fun p : Nat => (row L p).length).sum = (pre.map fun p : Nat => (row L p).length).sum + (row L x).length := by simp
    have HST := Lib.hid hst
    rw [hx1]
    clear hx1 hst
    generalize (row L (x : Nat)).length = nx at *
    generalize (pre.map fun p : Nat => (row L p).length).sum = sp at *
    have hsp : sp ≤ 800000 := by omega
    gi_wp2
    refine ⟨KeepsOthers.setCell _ _ _, ⟨by rw [← Below.heap_setCell W ⟨w.heap.size, 0, none⟩ (.int .i64 ((sp : Int) + (nx : Int))) (w.heap.size + 1) (by simp)], by rw [← Below.heap_setCell W ⟨w.heap.size, 0, none⟩ (.int .i64 ((sp : Int) + (nx : Int))) g (by simp; omega)], by rw [← Below.heap_setCell W ⟨w.heap.size, 0, none⟩ (.int .i64 ((sp : Int) + (nx : Int))) lb (by simp; omega)]⟩, ?_, hB.setCell (p := ⟨w.heap.size, 0, none⟩) (by simp) _⟩
    rw [HST.out]
    have := b1.set (.int .i64 ((sp : Int) + (nx : Int)))
    rw [show (((sp + nx : Nat) : Int)) = (sp : Int) + (nx : Int) by omega]
    exact this
  case done =>
    rintro D ys W hD rfl ⟨b1, hB⟩ hK
    rw [HS.out] at b1
    have k1 := b1.cell
    gi_wp2
    refine ⟨by simp, .inl ⟨_, _, rfl, run_takeDeferred hK, ?_⟩⟩
    exact ⟨_, results_tmp rfl _ _ _, rfl, hB.trans (belowK_b (w := w) (Nat.le_refl _) _ D _ _ (by omega) hK rfl rfl)⟩
  case stop =>
    rintro D c pre W _ _ h _
    exact h.elim
theorem Len_any (w : World) (g : Nat) (S : Nat → Prop) (N m : Nat) (L : List It) (h : Qw w g S N m L) (hN : N ≤ 100000) :
    Calls Try.prog 11 #[.pointer (some ⟨g, 0, none⟩)] w fun e W' => e = .returned (.int .i64 L.length) ∧ Below w.heap.size w W' :=
  (callsIn_wide (n := 3)).1 (len_in 3 (Nat.le_refl _) w g S N m L h hN)
end Go.Proofs.Ytncfggcbdliepaa
