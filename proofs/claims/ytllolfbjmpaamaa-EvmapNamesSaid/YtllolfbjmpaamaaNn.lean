/- A map that is none. -/
import Derived.Test.YtllolfbjmpaamaaNx
namespace Go.Proofs.Ytllolfbjmpaamaa
open Go.RowKit Go.Shelf
attribute [local go_sem] Oper.semAt_some
set_option linter.unusedSimpArgs false
set_option linter.unusedVariables false
set_option maxRecDepth 100000

/-- A pointer that is none's: nil, or a map's without its Go map. -/
def Nil (w : World) (P : Value) : Prop := ∀ W, Below w.heap.size w W → Calls Try.prog 33 #[P] W fun e w' => e = .returned (.bool true) ∧ W = w'
theorem Nil.below {w w' : World} {P : Value} (h : Nil w P) (hb : Below w.heap.size w w') : Nil w' P := fun W hW => h W (hb.trans (hW.mono hb.size))
theorem Nil.nil (w : World) : Nil w (.pointer none) := fun W _ => none_nil W
theorem Nil.zero (w : World) (z : Nat) (hz : z < w.heap.size) (h : w.cell? ⟨z, 0, none⟩ = some (.map none)) : Nil w (.pointer (some ⟨z, 0, none⟩)) := fun W hW => none_zero z W ((hW.cell (p := ⟨z, 0, none⟩) hz).trans h)

theorem check_nil (w : World) (P : Value) (ev fd wn : Int) (h : Nil w P) :
    Calls Try.prog 30 #[P, .int .i64 ev, .int .i64 fd, .int .i64 wn] w fun e w' => e = .returned (.int .i64 1) ∧ Below w.heap.size w w' := by
  have NO := Lib.hid (h w (Below.refl _ _))
  clear h
  go_enter Try.func30, Try.ntmps30
  go_wp2_with (go_at_call 33; refine NO.out.mono ?_; rintro e w1 ⟨rfl, rfl⟩)
  go_ret
  exact ⟨rfl, Below.refl _ _⟩
theorem add_nil (w : World) (P : Value) (ev fd wn : Int) (h : Nil w P) :
    Calls Try.prog 15 #[P, .int .i64 ev, .int .i64 fd, .int .i64 wn] w fun e w' => e = .returned (.tuple #[.int .i64 0, .int .i64 0, .int .i64 1]) ∧ Below w.heap.size w w' := by
  have HC := Lib.hid (check_nil w P ev fd wn h)
  clear h
  go_enter Try.func15, Try.ntmps15
  go_wp2_with fail
  refine HC.out.mono ?_
  rintro e w1 ⟨rfl, b1⟩
  go_wp2_with fail
  exact bodyPost_ret (v := .tuple #[.int .i64 0, .int .i64 0, .int .i64 1]) (by simp [results, Try.results15, go_sem]) rfl ⟨rfl, b1⟩
theorem as_nil (w : World) (P : Value) (ev sg : Int) (h : Nil w P) :
    Calls Try.prog 21 #[P, .int .i64 ev, .int .i64 sg] w fun e w' => e = .returned (.tuple #[.bool false, .int .i64 1]) ∧ Below w.heap.size w w' := by
  have NO := Lib.hid (h w (Below.refl _ _))
  clear h
  go_enter Try.func21, Try.ntmps21
  go_wp2_with (go_at_call 33; refine NO.out.mono ?_; rintro e w1 ⟨rfl, rfl⟩)
  exact bodyPost_ret (v := .tuple #[.bool false, .int .i64 1]) (by simp [results, Try.results21, go_sem]) rfl ⟨rfl, Below.refl _ _⟩
theorem cut_nil (w : World) (P : Value) (x : Int) (h : Nil w P) :
    Calls Try.prog 17 #[P, .int .i64 x] w fun e w' => e = .returned (.tuple #[.int .i64 0, .int .i64 0, .int .i64 0, .int .i64 1]) ∧ Below w.heap.size w w' := by
  have NO := Lib.hid (h w (Below.refl _ _))
  clear h
  go_enter Try.func17, Try.ntmps17
  go_wp2_with (go_at_call 33; refine NO.out.mono ?_; rintro e w1 ⟨rfl, rfl⟩)
  exact bodyPost_ret (v := .tuple #[.int .i64 0, .int .i64 0, .int .i64 0, .int .i64 1]) (by simp [results, Try.results17, go_sem]) rfl ⟨rfl, Below.refl _ _⟩
theorem cuts_nil (w : World) (P : Value) (x : Int) (h : Nil w P) :
    Calls Try.prog 24 #[P, .int .i64 x] w fun e w' => e = .returned (.tuple #[.int .i64 0, .bool false, .int .i64 1]) ∧ Below w.heap.size w w' := by
  have NO := Lib.hid (h w (Below.refl _ _))
  clear h
  go_enter Try.func24, Try.ntmps24
  go_wp2_with (go_at_call 33; refine NO.out.mono ?_; rintro e w1 ⟨rfl, rfl⟩)
  exact bodyPost_ret (v := .tuple #[.int .i64 0, .bool false, .int .i64 1]) (by simp [results, Try.results24, go_sem]) rfl ⟨rfl, Below.refl _ _⟩
theorem has_nil (w : World) (P : Value) (x : Int) (h : Nil w P) :
    Calls Try.prog 18 #[P, .int .i64 x] w fun e w' => e = .returned (.bool false) ∧ Below w.heap.size w w' := by
  have NO := Lib.hid (h w (Below.refl _ _))
  clear h
  go_enter Try.func18, Try.ntmps18
  go_wp2_with (go_at_call 33; refine NO.out.mono ?_; rintro e w1 ⟨rfl, rfl⟩)
  go_ret
  exact ⟨rfl, Below.refl _ _⟩
theorem len_nil (w : World) (P : Value) (h : Nil w P) :
    Calls Try.prog 14 #[P] w fun e w' => e = .returned (.int .i64 0) ∧ Below w.heap.size w w' := by
  have NO := Lib.hid (h w (Below.refl _ _))
  clear h
  go_enter Try.func14, Try.ntmps14
  go_wp2_with (go_at_call 33; refine NO.out.mono ?_; rintro e w1 ⟨rfl, rfl⟩)
  go_ret
  exact ⟨rfl, Below.refl _ _⟩
theorem wants_nil (w : World) (P : Value) (fd : Int) (h : Nil w P) :
    Calls Try.prog 13 #[P, .int .i64 fd] w fun e w' => e = .returned (.int .i64 0) ∧ Below w.heap.size w w' := by
  have NO := Lib.hid (h w (Below.refl _ _))
  clear h
  go_enter Try.func13, Try.ntmps13
  go_wp2_with (go_at_call 33; refine NO.out.mono ?_; rintro e w1 ⟨rfl, rfl⟩)
  go_ret
  exact ⟨rfl, Below.refl _ _⟩
theorem of_nil (w : World) (P : Value) (fd : Int) (h : Nil w P) :
    Calls Try.prog 12 #[P, .int .i64 fd] w fun e w' => e = .returned (.slice none 0 0) ∧ w = w' := by
  have NO := Lib.hid (h w (Below.refl _ _))
  clear h
  go_enter Try.func12, Try.ntmps12
  go_wp2_with (go_at_call 33; refine NO.out.mono ?_; rintro e w1 ⟨rfl, rfl⟩)
  go_ret
  exact ⟨rfl, rfl⟩
theorem ofs_nil (w : World) (P : Value) (fd : Int) (h : Nil w P) :
    Calls Try.prog 31 #[P, .int .i64 fd] w fun e w' => e = .returned (.slice none 0 0) ∧ Below w.heap.size w w' := by
  have NO := Lib.hid (h w (Below.refl _ _))
  clear h
  go_enter Try.func31, Try.ntmps31
  go_wp2_with (go_at_call 33; refine NO.out.mono ?_; rintro e w1 ⟨rfl, rfl⟩)
  go_ret
  exact ⟨rfl, Below.refl _ _⟩

set_option maxHeartbeats 2000000 in
theorem niter_in (n : Nat) (hn : 1 ≤ n) (l B1 B2 B3 z : Nat) (fd fl : Int) (J Jx : List It → World → Prop) (W : World) (h1 : Boxed W B1 24 (.pointer (some ⟨z, 0, none⟩))) (h2 : Boxed W B2 3 (.int .i64 fd)) (hz : Nil W (.pointer (some ⟨z, 0, none⟩))) (h0 : J [] W) :
    CallsIn Fence.wide n Try.prog 43 #[.func (.yield l) #[] #[], .pointer (some ⟨B1, 0, none⟩), .pointer (some ⟨B2, 0, none⟩), .pointer (some ⟨B3, 0, none⟩)] W fun e W' => (∃ v, e = .returned v) ∧
      ((∃ ys, ys = ([] : List It) ∧ J ys W') ∨ (∃ pre, pre = ([] : List It) ∧ Jx pre W')) := by
  have cb1 := h1.cell
  have cb2 := h2.cell
  have HO := Lib.hid (of_nil W _ fd hz)
  have H0 := Lib.hid h0
  clear h0 hz h1 h2
  refine callsIn_of_wp Try.func43 rfl trivial ?_ rfl
  simp only [Try.ntmps43, List.size_toArray, List.length_cons, List.length_nil, Nat.reduceAdd, Nat.reduceSub, Array.replicate_succ, Array.replicate_zero, List.push_toArray, List.append_toArray, List.nil_append, List.cons_append]
  gi_wp2_with fail
  refine wpIn_scope_wide ?_
  gi_wp2_with fail
  refine wpIn_label ?_
  gi_wp2_with fail
  refine ⟨trivial, (callsIn_wide.2 HO.out).mono ?_⟩
  rintro e W1 ⟨rfl, rfl⟩
  gi_wp2_with fail
  gi_loopw [12] (fun i wr => i = .int .i64 0 ∧ J [] wr) (fun i _ => 0)
  case atStart => exact ⟨rfl, H0.out⟩
  case round =>
    obtain ⟨rfl, hj⟩ := hrel
    gi_wp2_with fail
    rw [Exit.noGoto_normal]
    go_end0
    exact ⟨⟨_, rfl⟩, .inl ⟨_, rfl, hj⟩⟩

set_option maxHeartbeats 4000000 in
theorem nhits_in (n : Nat) (hn : 3 ≤ n) (w : World) (z : Nat) (fd fl : Int) (hz : Nil w (.pointer (some ⟨z, 0, none⟩))) :
    CallsIn Fence.wide n Try.prog 11 #[.pointer (some ⟨z, 0, none⟩), .int .i64 fd, .int .i64 fl] w fun e W' => e = .returned (.slice none 0 0) ∧ Below w.heap.size w W' := by
  have h1 : 1 ≤ n := by omega
  refine callsIn_of_wp_marks Try.func11 rfl trivial ?_ rfl
  simp only [Try.ntmps11, List.size_toArray, List.length_cons, List.length_nil, Nat.reduceAdd, Nat.reduceSub, Array.replicate_succ, Array.replicate_zero, List.push_toArray, List.append_toArray, List.nil_append, List.cons_append]
  gi_wp2_with fail
  refine ⟨trivial, (callsIn_wide.2 (hits_any z fd fl _)).mono ?_⟩
  rintro e w' ⟨rfl, rfl⟩
  gi_wp2_with fail
  obtain ⟨W0, hW0⟩ : ∃ W0, W0 = ((((w.alloc (.cells #[.slice none 0 0] 26)).alloc (.cells #[.pointer (some ⟨z, 0, none⟩)] 24)).alloc (.cells #[.int .i64 fd] 3)).alloc (.cells #[.int .i64 fl] 3)) := ⟨_, rfl⟩
  have hsz : W0.heap.size = w.heap.size + 4 := by rw [hW0]; simp
  have hB0 : Below w.heap.size w W0 := by rw [hW0]; exact ((((Below.refl _ w).alloc (Nat.le_refl _) _).alloc (by simp) _).alloc (by simp; omega) _).alloc (by simp; omega) _
  have c0 : Boxed W0 w.heap.size 26 (.slice none 0 0) := by rw [hW0]; exact (((Boxed.new w 26 (.slice none 0 0)).alloc _).alloc _).alloc _
  have c1 : Boxed W0 (w.heap.size + 1) 24 (.pointer (some ⟨z, 0, none⟩)) := by
    have := Boxed.new (w.alloc (.cells #[.slice none 0 0] 26)) 24 (.pointer (some ⟨z, 0, none⟩))
    rw [World.size_alloc] at this
    rw [hW0]; exact (this.alloc _).alloc _
  have c2 : Boxed W0 (w.heap.size + 1 + 1) 3 (.int .i64 fd) := by
    have := Boxed.new ((w.alloc (.cells #[.slice none 0 0] 26)).alloc (.cells #[.pointer (some ⟨z, 0, none⟩)] 24)) 3 (.int .i64 fd)
    rw [World.size_alloc, World.size_alloc] at this
    rw [hW0]; exact this.alloc _
  have hz0 : Nil W0 (.pointer (some ⟨z, 0, none⟩)) := hz.below hB0
  rw [← hW0]
  clear hW0
  refine wpIn_rangeFunc_ownH rfl h1 (gf := 43) (lb := #[.pointer (some ⟨w.heap.size + 1, 0, none⟩), .pointer (some ⟨w.heap.size + 1 + 1, 0, none⟩), .pointer (some ⟨w.heap.size + 1 + 2, 0, none⟩)]) rfl trivial (enters_of Try.func43 (by kernel_rfl) rfl)
    (show SeqStopsK Fence.wide (n - 1) Try.prog 43 #[.pointer (some ⟨w.heap.size + 1, 0, none⟩), .pointer (some ⟨w.heap.size + 1 + 1, 0, none⟩), .pointer (some ⟨w.heap.size + 1 + 2, 0, none⟩)] (fun x : It => #[.agg #[.int .i64 x.id, .int .i64 x.wn]]) KQ (fun xs => xs = []) (fun pre => pre = []) 0 W0 from
      fun l J Jx W hW hJ _ hY h0 => niter_in (n - 1) (by omega) l _ _ _ z fd fl J Jx W ((hW.block _ c1.lt).trans c1) ((hW.block _ c2.lt).trans c2) (hz0.below hW) h0) KQ.t (fun W l o o' _ h hc hw => KQ.b W l o o' h hc hw) (Below.refl _ _) (fun _ => rfl)
    (fun (pre : List It) W => Boxed W w.heap.size 26 (.slice none 0 0) ∧ Below w.heap.size W0 W)
    (fun _ _ _ => False)
    (OwnFrom.and (Own.from (boxed_own w.heap.size 26 (fun _ => .slice none 0 0)) _) (ownFrom_below (by omega) (by omega)))
    (fun _ _ _ _ _ hs _ _ => hs)
    ⟨c0, Below.refl _ _⟩
    (fun x a' W => True)
    ?hAx ?assign ?body ?done ?stop
  case hAx =>
    intro x a' _ A B row hs hg hr
    trivial
  case assign =>
    rintro l pre x W K ⟨hv, hB⟩ hK
    have hws := hB.size
    gi_wp2
    exact hK _ _ ((KeepsOthers.alloc _ _).from _) (KQ.alloc _ _) ⟨hv.alloc _, hB.alloc (by omega) _⟩ trivial
  case body =>
    rintro l pre x a' W _ _ _ _ hlt
    exact absurd hlt (Nat.not_lt_zero _)
  case done =>
    rintro D ys W hD rfl ⟨hv, hB⟩ hK
    have hc := hv.cell
    gi_wp2
    refine ⟨by simp, .inl ⟨_, _, rfl, run_takeDeferred hK, ?_⟩⟩
    exact ⟨_, results_tmp rfl _ _ _, rfl, (hB0.trans hB).trans (belowK_b (w := w) (Nat.le_refl _) W D _ _ (by omega) hK rfl rfl)⟩
  case stop =>
    rintro D c pre W _ _ h _
    exact h.elim
theorem hits_nil (w : World) (z : Nat) (fd fl : Int) (hz : Nil w (.pointer (some ⟨z, 0, none⟩))) :
    Calls Try.prog 11 #[.pointer (some ⟨z, 0, none⟩), .int .i64 fd, .int .i64 fl] w fun e W' => e = .returned (.slice none 0 0) ∧ Below w.heap.size w W' :=
  (callsIn_wide (n := 3)).1 (nhits_in 3 (Nat.le_refl _) w z fd fl hz)
end Go.Proofs.Ytllolfbjmpaamaa
