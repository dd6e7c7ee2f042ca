/- Hits. -/
import Derived.Test.YtllolfbjmpaamaaK
namespace Go.Proofs.Ytllolfbjmpaamaa
open Go.RowKit Go.Shelf
attribute [local go_sem] Oper.semAt_some
set_option linter.unusedSimpArgs false
set_option linter.unusedVariables false
set_option maxRecDepth 100000

theorem info31 : (Try.prog.info? 31).map (fun i => (i.zero, i.size, i.bytes)) = some (some (.agg #[.int .i64 0, .int .i64 0]), 2, 16) := by kernel_rfl
/-- Hits, flat. -/
def flatH (l : List It) : List Value := l.flatMap fun t => [.int .i64 t.id, .int .i64 t.wn]
theorem flatH_append (l m : List It) : flatH (l ++ m) = flatH l ++ flatH m := by simp [flatH]
theorem flatH_len : ∀ l : List It, (flatH l).length = 2 * l.length
  | [] => rfl
  | a :: r => by
    have := flatH_len r
    simp only [flatH, List.flatMap_cons, List.length_append, List.length_cons, List.length_nil] at this ⊢
    omega
theorem flatH_get : ∀ (l : List It) (k : Nat) (t : It), l[k]? = some t → (flatH l)[2 * k]? = some (.int .i64 t.id) ∧ (flatH l)[2 * k + 1]? = some (.int .i64 t.wn)
  | [], k, t, h => by simp at h
  | a :: r, 0, t, h => by
    simp at h; subst h
    exact ⟨rfl, rfl⟩
  | a :: r, k + 1, t, h => by
    have := flatH_get r k t (by simpa using h)
    have e : flatH (a :: r) = [.int .i64 a.id, .int .i64 a.wn] ++ flatH r := rfl
    have h1 : 2 * (k + 1) = 2 * k + 1 + 1 := by omega
    have h2 : 2 * (k + 1) + 1 = 2 * k + 1 + 1 + 1 := by omega
    rw [e, h2, h1]
    simpa using this
theorem cell_two_new (w : World) (x y : Value) (t : TypeId) : ∀ j u, [x, y][j]? = some u → (w.alloc (.cells #[x, y] t)).cell? ((⟨w.heap.size, 0, none⟩ : Addr).add j) = some u := by
  intro j u h
  obtain ⟨h1, -⟩ := cell_of (new_block w (.cells #[x, y] t)) j
  rw [add_plain, Nat.zero_add, h1]
  simpa using h
theorem KQ.alloc (W : World) (o : Obj) : KQ W (W.alloc o) := fun b p hp _ => (Below.heap_alloc W o b (Array.getElem?_eq_some_iff.1 hp).1).trans hp
theorem KQ.grown {W W' : World} {row : Option Nat} (hg : W.grownBy W' row) (hr : ∀ r, row = some r → ∃ cs T fr, W.heap[r]? = some (.cells cs T fr) ∧ (T = 26 ∨ T = 31)) : KQ W W' := fun b o ho hk => by
  refine (hg.block b (Array.getElem?_eq_some_iff.1 ho).1 (fun e => ?_)).trans ho
  obtain ⟨cs, T, fr, h, hT⟩ := hr b e.symm
  rw [h] at ho
  cases ho
  rcases hk with ⟨_, _, _, h2, h3, h4⟩ | h2
  · cases h2
    rcases hT with rfl | rfl
    · exact h3 rfl
    · exact h4 rfl
  · cases h2
theorem KQ.set {W : World} {b : Nat} {cs : Array Value} {T : TypeId} {fr : Nat × Nat} (h : W.heap[b]? = some (.cells cs T fr)) (hT : T = 26 ∨ T = 31) (j : Nat) (v : Value) : KQ W (W.setCell ⟨b, j, none⟩ v) :=
  KQ.grown (grown_set W b j v) (fun r e => by cases e; exact ⟨_, _, _, h, hT⟩)

theorem hits_any (g : Nat) (fd fl : Int) (w : World) : Calls Try.prog 32 #[.pointer (some ⟨g, 0, none⟩), .int .i64 fd, .int .i64 fl] w fun e w' =>
    e = .returned (.func (.func 43) #[] #[.pointer (some ⟨w.heap.size, 0, none⟩), .pointer (some ⟨w.heap.size + 1, 0, none⟩), .pointer (some ⟨w.heap.size + 2, 0, none⟩)]) ∧
      w' = ((w.alloc (.cells #[.pointer (some ⟨g, 0, none⟩)] 24)).alloc (.cells #[.int .i64 fd] 3)).alloc (.cells #[.int .i64 fl] 3) := by
  go_enter Try.func32, Try.ntmps32
  go_wp2
  go_ret
  exact ⟨rfl, rfl⟩

theorem iter_stops (n : Nat) (hn : 1 ≤ n) (B1 B2 B3 g : Nat) (S : Nat → Prop) (N : Nat) (L : List It) (fd fl : Int) (hN : N ≤ 9000) (w : World) (hS : Src w B1 B2 B3 g S N L fd fl) :
    SeqStopsK Fence.wide n Try.prog 43 #[.pointer (some ⟨B1, 0, none⟩), .pointer (some ⟨B2, 0, none⟩), .pointer (some ⟨B3, 0, none⟩)] (fun x : It => #[.agg #[.int .i64 x.id, .int .i64 x.wn]]) KQ (fun xs => xs = hitsL (ofL L fd) fl) (fun pre => pre <+: hitsL (ofL L fd) fl) 10000 w :=
  fun l J Jx W hW hJ _ hY h0 => iter_in n hn l B1 B2 B3 g S N L fd fl hN J Jx hY W (hS.kq (KQ.below hW)) hJ h0

set_option maxHeartbeats 4000000 in
theorem hits_in (n : Nat) (hn : 3 ≤ n) (w : World) (g : Nat) (S : Nat → Prop) (N : Nat) (L : List It) (fd fl : Int) (h : Qw w g S N L) (hN : N ≤ 9000) :
    CallsIn Fence.wide n Try.prog 11 #[.pointer (some ⟨g, 0, none⟩), .int .i64 fd, .int .i64 fl] w fun e W' => (∃ v', e = .returned v' ∧ W'.ownsRow w.heap.size 31 2 v' (hitsL (ofL L fd) fl).length (flatH (hitsL (ofL L fd) fl))) ∧ Below w.heap.size w W' := by
  have h1 : 1 ≤ n := by omega
  obtain ⟨i0, hi, hz0, hz1, hz2⟩ := info_parts info31
  refine callsIn_of_wp_marks Try.func11 rfl trivial ?_ rfl
  simp only [Try.ntmps11, List.size_toArray, List.length_cons, List.length_nil, Nat.reduceAdd, Nat.reduceSub, Array.replicate_succ, Array.replicate_zero, List.push_toArray, List.append_toArray, List.nil_append, List.cons_append]
  gi_wp2_with fail
  refine ⟨trivial, (callsIn_wide.2 (hits_any g fd fl _)).mono ?_⟩
  rintro e w' ⟨rfl, rfl⟩
  gi_wp2_with fail
  obtain ⟨W0, hW0⟩ : ∃ W0, W0 = ((((w.alloc (.cells #[.slice none 0 0] 26)).alloc (.cells #[.pointer (some ⟨g, 0, none⟩)] 24)).alloc (.cells #[.int .i64 fd] 3)).alloc (.cells #[.int .i64 fl] 3)) := ⟨_, rfl⟩
  have hsz : W0.heap.size = w.heap.size + 4 := by rw [hW0]; simp
  have hB0 : Below w.heap.size w W0 := by rw [hW0]; exact ((((Below.refl _ w).alloc (Nat.le_refl _) _).alloc (by simp) _).alloc (by simp; omega) _).alloc (by simp; omega) _
  have c0 : Boxed W0 w.heap.size 26 (.slice none 0 0) := by rw [hW0]; exact (((Boxed.new w 26 (.slice none 0 0)).alloc _).alloc _).alloc _
  have c1 : Boxed W0 (w.heap.size + 1) 24 (.pointer (some ⟨g, 0, none⟩)) := by
    have := Boxed.new (w.alloc (.cells #[.slice none 0 0] 26)) 24 (.pointer (some ⟨g, 0, none⟩))
    rw [World.size_alloc] at this
    rw [hW0]; exact (this.alloc _).alloc _
  have c2 : Boxed W0 (w.heap.size + 1 + 1) 3 (.int .i64 fd) := by
    have := Boxed.new ((w.alloc (.cells #[.slice none 0 0] 26)).alloc (.cells #[.pointer (some ⟨g, 0, none⟩)] 24)) 3 (.int .i64 fd)
    rw [World.size_alloc, World.size_alloc] at this
    rw [hW0]; exact this.alloc _
  have c3 : Boxed W0 (w.heap.size + 1 + 2) 3 (.int .i64 fl) := by
    have := Boxed.new (((w.alloc (.cells #[.slice none 0 0] 26)).alloc (.cells #[.pointer (some ⟨g, 0, none⟩)] 24)).alloc (.cells #[.int .i64 fd] 3)) 3 (.int .i64 fl)
    rw [World.size_alloc, World.size_alloc, World.size_alloc] at this
    rw [hW0]; exact this
  have hsrc : Src W0 (w.heap.size + 1) (w.heap.size + 1 + 1) (w.heap.size + 1 + 2) g S N L fd fl := ⟨c1, c2, c3, h.below hB0⟩
  rw [← hW0]
  clear hW0 c1 c2 c3
  refine wpIn_rangeFunc_ownH rfl h1 (gf := 43) (lb := #[.pointer (some ⟨w.heap.size + 1, 0, none⟩), .pointer (some ⟨w.heap.size + 1 + 1, 0, none⟩), .pointer (some ⟨w.heap.size + 1 + 2, 0, none⟩)]) rfl trivial (enters_of Try.func43 (by kernel_rfl) rfl)
    (iter_stops (n - 1) (by omega) _ _ _ g S N L fd fl hN W0 hsrc) KQ.t (fun W l o o' _ h hc hw => KQ.b W l o o' h hc hw) (Below.refl _ _) (fun _ => rfl)
    (fun (pre : List It) W => (∃ v, Boxed W w.heap.size 26 v ∧ W.ownsRow w.heap.size 31 2 v pre.length (flatH pre) ∧ True) ∧ Below w.heap.size W0 W)
    (fun _ _ _ => False)
    (OwnFrom.and (Own.from (holdsRow_own w.heap.size w.heap.size 26 31 2 (fun pre : List It => pre.length) flatH (fun _ _ => True)) _) (ownFrom_below (by omega) (by omega)))
    (fun _ _ _ _ _ hs _ _ => hs)
    ⟨⟨_, c0, World.ownsRow_nil _ _ _ _, trivial⟩, Below.refl _ _⟩
    (fun x a' W => ∃ B, W0.heap.size ≤ B ∧ a' = { tmps := #[.pointer (some ⟨g, 0, none⟩), .int .i64 fd, .int .i64 fl, undef, undef, undef, .slice none 0 0, .pointer (some ⟨w.heap.size, 0, none⟩), .pointer (some ⟨B, 0, none⟩), .pointer (some ⟨g, 0, none⟩), .int .i64 fd, .int .i64 fl, .func (.func 43) #[] #[.pointer (some ⟨w.heap.size + 1, 0, none⟩), .pointer (some ⟨w.heap.size + 1 + 1, 0, none⟩), .pointer (some ⟨w.heap.size + 1 + 2, 0, none⟩)], .agg #[.int .i64 x.id, .int .i64 x.wn], undef, undef, undef, undef, undef], defers := [] } ∧ W.heap[B]? = some (.cells #[.int .i64 x.id, .int .i64 x.wn] 31 (0, 0)))
    ?hAx ?assign ?body ?done ?stop
  case hAx =>
    intro x a' _ A B row hs hg hr
    obtain ⟨b, hb, ha, hc⟩ := hs
    refine ⟨b, hb, ha, (hg.block b (lt_of_block hc) (fun e => ?_)).trans hc⟩
    obtain ⟨_, o, ho, hoc⟩ := hr b e.symm
    rw [hc] at ho
    cases ho
    cases hoc
  case assign =>
    rintro l pre x W K ⟨⟨v, hv, hrow, _⟩, hB⟩ hK
    have hws := hB.size
    gi_wp2
    exact hK _ _ ((KeepsOthers.alloc _ _).from _) (KQ.alloc _ _) ⟨⟨v, hv.alloc _, hrow.alloc _, trivial⟩, hB.alloc (by omega) _⟩ ⟨_, hws, rfl, new_block _ _⟩
  case body =>
    rintro l pre x a' W _ _ ⟨⟨v, hv, hrow, _⟩, hB⟩ ⟨b, hb, rfl, hcb⟩ hlt
    have hc := hv.cell
    obtain ⟨cb0, -⟩ := cell_of hcb 0
    obtain ⟨cb1, -⟩ := cell_of hcb 1
    simp at cb0 cb1
    have hws := hB.size
    have hvr := hv.not_row (by decide) hrow
    have hrT : ∀ (o : Obj) r, v.ownBlock = some r → ∃ cs T fr, (W.alloc o).heap[r]? = some (.cells cs T fr) ∧ (T = 26 ∨ T = 31) := fun o r e => by
      rcases (hrow.alloc o).2 with ⟨rfl, _⟩ | ⟨gg, cap, cur, rfl, _, hgb, _⟩
      · simp [Value.ownBlock] at e
      · obtain rfl : gg = r := by simpa [Value.ownBlock] using e
        exact ⟨_, _, _, hgb, .inr rfl⟩
    gi_wp2_with (gi_at_builtin; refine wpListIn_append_own _ rfl _ _ 26 rfl w.heap.size 31 i0 (.agg #[.int .i64 0, .int .i64 0]) 2 16 Try.underlying26 hi hz0 hz1 hz2 rfl (by decide) _ _ _ rfl (hrow.alloc _) ⟨W.heap.size, 0, none⟩ 1 1 [.int .i64 x.id, .int .i64 x.wn] rfl rfl (cell_two_new _ _ _ _) (by simp [Value.oneCell']) (by unfold maxLen; omega) (by omega) (by simp; omega) ?_; intro v' w1 hown' hgrow _; obtain ⟨g', cap', rfl⟩ := ownsRow_succ hown'; obtain ⟨hv1, hv2, hr2, hk2, hb2⟩ := hv.appended (by decide) hrow (by omega) (Nat.le_refl _) hown' hgrow; have kq1 := (KQ.alloc W _).t ((KQ.grown hgrow (hrT _)).t (KQ.set hv1 (.inl rfl) 0 (.slice (some ⟨g', 0, none⟩) (pre.length + 1) cap'))); have hc1 := hv1.cell; have hf1 := hv1.frozen)
    exact ⟨hk2.from _, kq1, ⟨_, hv2, by simpa [flatH_append, show flatH [x] = [.int .i64 x.id, .int .i64 x.wn] from rfl] using hr2, trivial⟩, hB.trans hb2⟩
  case done =>
    rintro D ys W hD rfl ⟨⟨v, hv, hrow, _⟩, hB⟩ hK
    have hc := hv.cell
    gi_wp2
    refine ⟨by simp, .inl ⟨_, _, rfl, run_takeDeferred hK, ?_⟩⟩
    exact ⟨_, results_tmp rfl _ _ _, ⟨_, rfl, ownsRow_putObj hrow _ hK rfl⟩, (hB0.trans hB).trans (belowK_b (w := w) (Nat.le_refl _) W D _ _ (by omega) hK rfl rfl)⟩
  case stop =>
    rintro D c pre W _ _ h _
    exact h.elim

theorem Hits_any (w : World) (g : Nat) (S : Nat → Prop) (N : Nat) (L : List It) (fd fl : Int) (h : Qw w g S N L) (hN : N ≤ 9000) :
    Calls Try.prog 11 #[.pointer (some ⟨g, 0, none⟩), .int .i64 fd, .int .i64 fl] w fun e W' => (∃ v', e = .returned v' ∧ W'.ownsRow w.heap.size 31 2 v' (hitsL (ofL L fd) fl).length (flatH (hitsL (ofL L fd) fl))) ∧ Below w.heap.size w W' :=
  (callsIn_wide (n := 3)).1 (hits_in 3 (Nat.le_refl _) w g S N L fd fl h hN)
end Go.Proofs.Ytllolfbjmpaamaa
