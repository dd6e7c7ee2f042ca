/- text: the words of a mask. -/
/- text for every mask; Text, FeatText; alive. -/
/- The mask that words say: the plain part. -/
import Derived.Test.YtbanfkpfijcmcaaGreatDoorFA
import Derived.Lib.Split
import Derived.Lib.SlicesS

namespace Go.Proofs.YtbanfkpfijcmcaaGreatDoor.Fl
open Go.RowKit Go.Shelf
attribute [local go_sem] Oper.semAt_some
set_option linter.unusedSimpArgs false
set_option linter.unusedVariables false
set_option maxRecDepth 100000

theorem bits_any (T m : Int) (w : World) : Calls Tryz.prog 82 #[.int .i64 T, .int .i64 m] w fun e w' => e = .returned (.func (.func 103) #[] #[.pointer (some ⟨w.heap.size, 0, none⟩), .pointer (some ⟨w.heap.size + 1, 0, none⟩)]) ∧ w' = (w.alloc (.cells #[.int .i64 T] 3)).alloc (.cells #[.int .i64 m] 3) := by
  go_enter Tryz.func82, Tryz.ntmps82
  go_wp2
  go_ret
  exact ⟨rfl, rfl⟩
theorem bits_stops (n : Nat) (hn : 1 ≤ n) (Bt Bm T m : Nat) (hT : T < 2) (hm : m < 64) (w : World) (hw : Wd w) (hBt : Boxed w Bt 3 (.int .i64 (T : Int))) (hBm : Boxed w Bm 3 (.int .i64 (m : Int))) :
    SeqStopsK Fence.wide n Tryz.prog 103 #[.pointer (some ⟨Bt, 0, none⟩), .pointer (some ⟨Bm, 0, none⟩)] (fun x : Fin 6 => #[.string (wl.getD (T * 6 + x.val) ByteArray.empty)]) (KT Bt Bm) (fun xs => xs = wb m (nT T)) (fun pre => pre <+: wb m (nT T)) 6 w :=
  fun l J Jx W hW hJ _ hY h0 => bits1_in n hn l Bt Bm T m hT hm J Jx hY W (hw.same (hW.block 1 hw.lt)) (Boxed.low hBt hW hBt.lt) (Boxed.low hBm hW hBm.lt) hJ h0

/-- The words of some bits. -/
def wds (T : Nat) (q : List (Fin 6)) : List ByteArray := q.map (fun x => wl.getD (T * 6 + x.val) ByteArray.empty)
theorem wds_snoc (T : Nat) (q : List (Fin 6)) (x : Fin 6) : wds T (q ++ [x]) = wds T q ++ [wl.getD (T * 6 + x.val) ByteArray.empty] := by simp [wds]
theorem wds_len (T : Nat) (q : List (Fin 6)) : (wds T q).length = q.length := by simp [wds]

/-- What text holds between two rounds. -/
structure FxI (w : World) (T m : Nat) (s : List ByteArray) (W : World) : Prop where
  out : ∃ v, Boxed W w.heap.size 75 v ∧ W.ownsRow (w.heap.size + 3) 9 1 v s.length (s.map Value.string)
  bt : Boxed W (w.heap.size + 1) 3 (.int .i64 (T : Int))
  bm : Boxed W (w.heap.size + 1 + 1) 3 (.int .i64 (m : Int))
  bel : Below w.heap.size w W
  sz : w.heap.size + 3 ≤ W.heap.size
theorem not_cells_row {A : World} {base : Nat} {e : TypeId} {sz : Nat} {v : Value} {n : Nat} {xs : List Value} {row : Option Nat} (h : A.ownsRow base e sz v n xs) (hr : ∀ r, row = some r → ∃ o : Obj, A.heap[r]? = some o ∧ o.isCells = false) : v.ownBlock = none ∨ v.ownBlock ≠ row := by
  rcases h.2 with ⟨rfl, _⟩ | ⟨g, cap, cur, rfl, _, hgb, _⟩
  · exact .inl rfl
  · refine .inr fun e' => ?_
    obtain ⟨o, ho, hc⟩ := hr g (by simpa [Value.ownBlock] using e'.symm)
    rw [hgb] at ho; cases ho; cases hc
theorem FxI.ow {w A B : World} {T m : Nat} {s : List ByteArray} {row : Option Nat} (h : FxI w T m s A) (hg : A.grownBy B row) (hr : ∀ r, row = some r → w.heap.size + 3 ≤ r ∧ ∃ o : Obj, A.heap[r]? = some o ∧ o.isCells = false) : FxI w T m s B := by
  have hr' := fun r e => (hr r e).2
  obtain ⟨v, hv, hrow⟩ := h.out
  refine ⟨⟨v, Boxed.ow hv hg hr', hrow.kept hg (not_cells_row hrow hr')⟩, Boxed.ow h.bt hg hr', Boxed.ow h.bm hg hr', ?_, Nat.le_trans h.sz hg.size⟩
  exact h.bel.grown hg (by have := h.sz; omega) (fun k e => by have := (hr k e).1; omega)
theorem FxI.app {w W w1 : World} {T m : Nat} {s : List ByteArray} {v v' : Value} {o : Obj} {x : ByteArray} (h1w : 1 < w.heap.size) (h : FxI w T m s W) (hv : Boxed W w.heap.size 75 v) (hrow : W.ownsRow (w.heap.size + 3) 9 1 v s.length (s.map Value.string))
    (hr : w1.ownsRow (w.heap.size + 3) 9 1 v' (s.length + 1) (s.map Value.string ++ [.string x])) (g : (W.alloc o).grownBy w1 v.ownBlock) :
    Boxed w1 w.heap.size 75 v ∧ FxI w T m (s ++ [x]) (w1.setCell ⟨w.heap.size, 0, none⟩ v') ∧ KeepsOthers W (w1.setCell ⟨w.heap.size, 0, none⟩ v') ∧ KT (w.heap.size + 1) (w.heap.size + 1 + 1) W (w1.setCell ⟨w.heap.size, 0, none⟩ v') := by
  have hb : Below (w.heap.size + 3) W w1 := below_append (Below.refl _ W) hrow g (Nat.le_refl _) h.sz
  have hv1 := Boxed.low hv hb (by omega)
  have hsz := h.sz
  refine ⟨hv1, ⟨⟨v', hv1.set _, by have := hr.kept (grownBy_setCell' w1 w.heap.size v') (.inr fun e => by have := (hr.lt _ e).1; omega); simpa using this⟩, (Boxed.low h.bt hb (by omega)).other (by omega) _, (Boxed.low h.bm hb (by omega)).other (by omega) _, ?_, ?_⟩, ?_, ?_⟩
  · exact (h.bel.trans (hb.mono (by omega))).setCell (by simp) _
  · exact Nat.le_trans (Nat.le_trans hsz hb.size) (KeepsOthers.setCell w1 _ _).size
  · refine ((KeepsOthers.alloc W o).trans (KeepsOthers.of_grownBy g fun j o' ej hj => ?_)).trans (KeepsOthers.setCell _ _ _)
    rcases (hrow.alloc o).2 with ⟨rfl, _⟩ | ⟨g', cap, cur, rfl, _, hgb, _⟩
    · simp [Value.ownBlock] at ej
    · obtain rfl : g' = j := by simpa [Value.ownBlock] using ej
      rw [hgb] at hj; cases hj; rfl
  · exact KT.t (KT.below hb (by omega) (by omega) (by omega)) (KT.set _ _ (by omega) (by omega) (by omega))

theorem info9 : (Tryz.prog.info? 9).map (fun i => (i.zero, i.size, i.bytes)) = some (some (.string ⟨#[]⟩), 1, 16) := by kernel_rfl
theorem joinTail_len (sep : List UInt8) (r : List (List UInt8)) (k : Nat) (h : ∀ x ∈ r, x.length ≤ k) : (Lib.joinTail sep r).length ≤ r.length * (k + sep.length) := by
  unfold Lib.joinTail
  induction r with
  | nil => simp
  | cons x r ih =>
    have h1 := h x (by simp)
    have h2 := ih (fun y hy => h y (by simp [hy]))
    simp only [List.map_cons, List.flatten_cons, List.length_append, List.length_cons]
    rw [Nat.add_mul]
    omega
theorem join_len (sep : List UInt8) (r : List (List UInt8)) (k : Nat) (h : ∀ x ∈ r, x.length ≤ k) : (Lib.join r sep).length ≤ r.length * (k + sep.length) := by
  cases r with
  | nil => simp [Lib.join_nil]
  | cons x r =>
    rw [Lib.join_cons]
    have h1 := h x (by simp)
    have h2 := joinTail_len sep r k (fun y hy => h y (by simp [hy]))
    simp only [List.length_append, List.length_cons]
    rw [Nat.add_mul]
    omega
theorem wl_size : ∀ i : Fin 18, (wl.getD i.val ByteArray.empty).data.toList.length ≤ 8 := by decide +kernel
theorem wds_join (T : Nat) (hT : T < 2) (q : List (Fin 6)) (h : q.length ≤ 6) : (Lib.join ((wds T q).map (·.data.toList)) [43]).length ≤ 54 := by
  have h2 := join_len [43] ((wds T q).map (·.data.toList)) 8 (fun x hx => by
    obtain ⟨y, hy, rfl⟩ := List.mem_map.1 hx
    unfold wds at hy
    obtain ⟨z, _, rfl⟩ := List.mem_map.1 hy
    exact wl_size ⟨T * 6 + z.val, by omega⟩)
  simp only [List.length_map, List.length_cons, List.length_nil, wds_len] at h2
  omega
theorem join_row {W : World} {base : Nat} {v : Value} {xs : List ByteArray} (hrow : W.ownsRow base 9 1 v xs.length (xs.map Value.string)) (hl : xs.length ≤ 64) (hjn : (Lib.join (xs.map (·.data.toList)) [43]).length ≤ 384) :
    Calls Tryz.prog 45 #[v, .string ⟨#[43]⟩] W fun e W' => e = .returned (.string ⟨(Lib.join (xs.map (·.data.toList)) [43]).toArray⟩) ∧ Below W.heap.size W W' := by
  rcases hrow.2 with ⟨rfl, h0⟩ | ⟨g, cap, cur, rfl, hb, hh, hn, _⟩
  · have : xs = [] := List.eq_nil_of_length_eq_zero h0
    subst this
    exact (Tryz.strings_Join_none none 0 _ W).mono (by rintro e W' ⟨rfl, rfl⟩; exact ⟨rfl, Below.refl _ _⟩)
  · refine Tryz.strings_Join g 0 cap xs ⟨#[43]⟩ W (fun j x hx => ?_) (lt_of_block hh) (by omega) hn (Nat.le_trans hjn (by omega))
    have hj : j < xs.length := (List.getElem?_eq_some_iff.1 hx).1
    rw [Nat.zero_add, hrow.cellAt j (by omega), List.getElem?_map, hx]; rfl

set_option maxHeartbeats 4000000 in
theorem text_in (n : Nat) (hn : 3 ≤ n) (T m : Nat) (w : World) (hw : Wd w) (hT : T < 2) (h0 : 0 < m) (hm : m < 2 ^ nT T) :
    CallsIn Fence.wide n Tryz.prog 65 #[.int .i64 (T : Int), .int .i64 (m : Int)] w fun e W' => e = .returned (.tuple #[.string ⟨(Lib.join ((wds T (wb m (nT T))).map (·.data.toList)) [43]).toArray⟩, .int .i64 0]) ∧ Below w.heap.size w W' := by
  have h1 : 1 ≤ n := by omega
  have h2 : 1 ≤ n - 1 - 1 := by omega
  have hm64 : m < 64 := by unfold nT at hm; split at hm <;> omega
  have hcmp : ((m : Int) < 2 ^ nT T) := by exact_mod_cast hm
  have h1w := hw.lt
  obtain ⟨i9, hi9, hz9, hs9, hy9⟩ := info_parts info9
  have I9 := Lib.hid hi9; have Z9 := Lib.hid hz9; have S9 := Lib.hid hs9; have Y9 := Lib.hid hy9
  clear hi9 hz9 hs9 hy9
  have HM := Lib.hid (many_any T w hw hT)
  have HW := Lib.hid hw; clear hw
  have e0 : ((m : Int) == 0) = false := by simp; omega
  have hnT : nT T ≤ 6 := by unfold nT; split <;> omega
  have hwr : wrap64 (2 ^ nT T) = 2 ^ nT T := by unfold nT; split <;> decide +kernel
  have d1 : decide ((m : Int) < 0) = false := decide_eq_false (by omega)
  have d2 : decide (wrap64 (2 ^ nT T) ≤ (m : Int)) = false := by rw [hwr]; exact decide_eq_false (by omega)
  clear hwr hcmp
  refine callsIn_of_wp_marks Tryz.func65 rfl trivial ?_ rfl
  simp only [Tryz.ntmps65, List.size_toArray, List.length_cons, List.length_nil, Nat.reduceAdd, Nat.reduceSub, Array.replicate_succ, Array.replicate_zero, List.push_toArray, List.append_toArray, List.nil_append, List.cons_append]
  gi_wp2_with fail
  refine ⟨trivial, (callsIn_wide.2 HM.out).mono ?_⟩
  rintro e w' ⟨rfl, rfl⟩
  gi_wp2_with fail
  refine ⟨trivial, (callsIn_wide.2 (bits_any _ _ _)).mono ?_⟩
  rintro e w' ⟨rfl, rfl⟩
  gi_wp2_with fail
  obtain ⟨W0, hW0⟩ : ∃ W0, W0 = (((w.alloc (.cells #[.slice none 0 0] 75)).alloc (.cells #[.int .i64 (T : Int)] 3)).alloc (.cells #[.int .i64 (m : Int)] 3)) := ⟨_, rfl⟩
  have hsz : W0.heap.size = w.heap.size + 3 := by rw [hW0]; simp
  have T0 : FxI w T m [] W0 := by
    have q1 := Boxed.new w 75 (.slice none 0 0)
    have q2 := Boxed.new (w.alloc (.cells #[.slice none 0 0] 75)) 3 (.int .i64 (T : Int))
    have q3 := Boxed.new ((w.alloc (.cells #[.slice none 0 0] 75)).alloc (.cells #[.int .i64 (T : Int)] 3)) 3 (.int .i64 (m : Int))
    simp only [World.size_alloc] at q2 q3
    rw [hW0]
    exact ⟨⟨_, (q1.alloc _).alloc _, World.ownsRow_nil _ _ _ _⟩, q2.alloc _, q3, (((Below.refl _ w).alloc (Nat.le_refl _) _).alloc (by simp) _).alloc (by simp; omega) _, by simp⟩
  have hWd0 : Wd W0 := HW.out.same (T0.bel.block 1 h1w)
  rw [← hW0]
  clear hW0
  refine wpIn_rangeFunc_ownG rfl h1 (gf := 103) (lb := #[.pointer (some ⟨w.heap.size + 1, 0, none⟩), .pointer (some ⟨w.heap.size + 1 + 1, 0, none⟩)]) rfl trivial (enters_of Tryz.func103 (by kernel_rfl) rfl)
    (bits_stops (n - 1) (by omega) (w.heap.size + 1) (w.heap.size + 1 + 1) T m hT hm64 W0 hWd0 T0.bt T0.bm) KT.t (KT.b (by omega) (by omega) (by omega)) (Below.refl _ _) (fun _ => rfl)
    (fun pre W => FxI w T m (wds T pre) W)
    (fun _ _ _ => False)
    (fun s A B row hs hg hr => FxI.ow hs hg (fun r e => by have := hr r e; rw [hsz] at this; exact this)) (fun _ _ _ _ _ hs _ _ => hs) T0
    (fun x => { tmps := #[.int .i64 (T : Int), .int .i64 (m : Int), undef, undef, .string ⟨#[]⟩, .int .i64 0, .pointer (some ⟨w.heap.size, 0, none⟩), .string (wl.getD (T * 6 + x.val) ByteArray.empty), .int .i64 (m : Int), .bool false, .bool false, .int .i64 (m : Int), .int .i64 (T : Int), .int .i64 (nT T : Nat), .int .i64 (wrap64 (2 ^ nT T)), .bool false, .bool false, .int .i64 (m : Int), .bool false, .int .i64 (T : Int), .int .i64 (m : Int), .func (.func 103) #[] #[.pointer (some ⟨w.heap.size + 1, 0, none⟩), .pointer (some ⟨w.heap.size + 1 + 1, 0, none⟩)], .string (wl.getD (T * 6 + x.val) ByteArray.empty), undef, undef, undef, undef, undef, undef], defers := [] }) ?assign ?body ?done ?stop
  case assign =>
    intro l x W K hK
    gi_wp2_with fail
    exact hK
  case body =>
    rintro l pre x W T1 hlen
    have HS := Lib.hid (wds_snoc T pre x)
    have hl := wds_len T pre
    have hl2 : (wds T pre).length ≤ 6 := by omega
    generalize wds T pre = s at *
    generalize wl.getD (T * 6 + x.val) ByteArray.empty = X at *
    clear hl
    obtain ⟨v, hv9, hrow⟩ := T1.out
    have c9 := hv9.cell
    gi_wp2_with (gi_at_builtin; refine wpListIn_append_own _ rfl _ _ 75 rfl (w.heap.size + 3) 9 i9 (.string ⟨#[]⟩) 1 16 Tryz.underlying75 I9.out Z9.out S9.out Y9.out rfl (by decide) _ _ _ rfl (hrow.alloc _) ⟨_, 0, none⟩ 1 1 [.string X] rfl rfl (cell_one_new _ _ _) (by simp [Value.oneCell']) (by unfold maxLen; omega) (by omega) (by have := T1.sz; simp; omega) ?_; intro v' w5 hown' hgrow _; obtain ⟨g', cap', rfl⟩ := ownsRow_succ hown'; obtain ⟨hv1, T6, K6, B6⟩ := FxI.app (x := X) h1w T1 hv9 hrow hown' hgrow; have hc1 := hv1.cell; have hf1 := hv1.frozen; clear hown' hgrow)
    exact ⟨K6.from _, B6, by show FxI w T m (wds T _) _; rw [HS.out]; exact T6⟩
  case done =>
    rintro D ys W hD rfl T1 hK
    have hjn := wds_join T hT (wb m (nT T)) (wb_len _ _)
    obtain ⟨v, hv, hrow⟩ := T1.out
    have c9 := hv.cell
    have HJ := Lib.hid (join_row hrow (by rw [wds_len]; have := wb_len m (nT T); omega) (by omega))
    clear hjn hrow
    generalize hst : (⟨(Lib.join ((wds T (wb m (nT T))).map (·.data.toList)) [43]).toArray⟩ : ByteArray) = tx at HJ
    have HT := Lib.hid hst; clear hst
    gi_wp2_with fail
    refine ⟨trivial, ?_⟩
    refine (callsIn_wide.2 HJ.out).mono ?_
    rintro e W2 ⟨rfl, b2⟩
    have hK2 : W2.heap[D]? = some (.deferred (some [])) := (b2.block D (Array.getElem?_eq_some_iff.1 hK).1).trans hK
    gi_wp2_with fail
    refine ⟨by simp, .inl ⟨_, _, rfl, run_takeDeferred hK2, ?_⟩⟩
    refine ⟨.tuple #[.string tx, .int .i64 0], by simp [results, Tryz.f65, go_sem], by rw [HT.out], ?_⟩
    exact (T1.bel.trans (b2.mono (by have := T1.sz; omega))).trans (belowK_b (w := w) (Nat.le_refl _) _ D _ _ (by omega) hK2 rfl rfl)
  case stop =>
    rintro D c pre W _ _ h _
    exact h.elim
end Go.Proofs.YtbanfkpfijcmcaaGreatDoor.Fl

namespace Go.Proofs.YtbanfkpfijcmcaaGreatDoor.Fl
open Go.RowKit
set_option linter.unusedSimpArgs false
set_option linter.unusedVariables false
set_option maxRecDepth 100000

/-- The words of a mask, and the error. -/
def txL (T : Nat) (m : Int) : List UInt8 := if m < 0 ∨ 2 ^ nT T ≤ m then [] else if m = 0 then [110, 111, 110, 101] else Lib.join ((wds T (wb m.toNat (nT T))).map (·.data.toList)) [43]
def txE (T : Nat) (m : Int) : Int := if m < 0 ∨ 2 ^ nT T ≤ m then 50 else 0
def RT (T : Nat) (m : Int) (w : World) (e : Ending) (w' : World) : Prop := e = .returned (.tuple #[.string ⟨(txL T m).toArray⟩, .int .i64 (txE T m)]) ∧ Below w.heap.size w w'
theorem wrap_nT (T : Nat) : wrap64 (2 ^ nT T) = 2 ^ nT T := by unfold nT; split <;> decide +kernel
theorem pow_nT (T : Nat) : (2 : Int) ^ nT T = 16 ∨ (2 : Int) ^ nT T = 64 := by unfold nT; split <;> decide
theorem pow_nat (T : Nat) : ((2 ^ nT T : Nat) : Int) = (2 : Int) ^ nT T := by simp

set_option maxHeartbeats 1000000 in
theorem text_any (T : Nat) (m : Int) (w : World) (hw : Wd w) (hT : T < 2) : Calls Tryz.prog 65 #[.int .i64 (T : Int), .int .i64 m] w (RT T m w) := by
  have hp := pow_nT T
  by_cases hout : m < 0 ∨ 2 ^ nT T ≤ m
  · have h1 : txL T m = [] := by unfold txL; rw [if_pos hout]
    have h2 : txE T m = 50 := by unfold txE; rw [if_pos hout]
    unfold RT
    rw [h1, h2]
    clear h1 h2
    have HM := Lib.hid (many_any T w hw hT)
    have hnT : nT T ≤ 6 := by unfold nT; split <;> omega
    clear hw
    by_cases hneg : m < 0
    · clear hout hp
      have d1 : decide (m < 0) = true := decide_eq_true hneg
      go_enter Tryz.func65, Tryz.ntmps65
      go_wp2_with (go_at_call 81; refine HM.out.mono ?_; rintro e w' ⟨rfl, rfl⟩)
      go_ret2
      exact ⟨rfl, Below.refl _ _⟩
    · have d1 : decide (m < 0) = false := decide_eq_false hneg
      have d2 : decide (wrap64 (2 ^ nT T) ≤ m) = true := by rw [wrap_nT]; exact decide_eq_true (hout.resolve_left hneg)
      clear hout hp
      go_enter Tryz.func65, Tryz.ntmps65
      go_wp2_with (go_at_call 81; refine HM.out.mono ?_; rintro e w' ⟨rfl, rfl⟩)
      go_ret2
      exact ⟨rfl, Below.refl _ _⟩
  · by_cases h0 : m = 0
    · subst h0
      have h1 : txL T 0 = [110, 111, 110, 101] := by unfold txL; rw [if_neg hout, if_pos rfl]
      have h2 : txE T 0 = 0 := by unfold txE; rw [if_neg hout]
      unfold RT
      rw [h1, h2]
      clear h1 h2
      have HM := Lib.hid (many_any T w hw hT)
      have hnT : nT T ≤ 6 := by unfold nT; split <;> omega
      have d2 : decide (wrap64 (2 ^ nT T) ≤ 0) = false := by rw [wrap_nT]; exact decide_eq_false (by omega)
      have d1 : decide ((0 : Int) < 0) = false := by decide
      clear hw hout hp
      go_enter Tryz.func65, Tryz.ntmps65
      go_wp2_with (go_at_call 81; refine HM.out.mono ?_; rintro e w' ⟨rfl, rfl⟩)
      go_ret2
      exact ⟨rfl, Below.refl _ _⟩
    · obtain ⟨k, rfl⟩ := Int.eq_ofNat_of_zero_le (show 0 ≤ m by omega)
      have hk : k < 2 ^ nT T := by have := pow_nat T; omega
      refine ((callsIn_wide (n := 3)).1 (text_in 3 (Nat.le_refl _) T k w hw hT (by omega) hk)).mono ?_
      rintro e w' ⟨rfl, hb⟩
      refine ⟨?_, hb⟩
      have h1 : txL T (k : Int) = Lib.join ((wds T (wb k (nT T))).map (·.data.toList)) [43] := by unfold txL; rw [if_neg hout, if_neg h0, Int.toNat_natCast]
      have h2 : txE T (k : Int) = 0 := by unfold txE; rw [if_neg hout]
      rw [h1, h2]

theorem Text_any (m : Int) (w : World) (hw : Wd w) : Calls Tryz.prog 38 #[.int .i64 m] w (RT 0 m w) := by
  have H := Lib.hid (text_any 0 m w hw (by decide)); clear hw
  unfold RT at H ⊢
  generalize (⟨(txL 0 m).toArray⟩ : ByteArray) = s at *
  generalize txE 0 m = x at *
  go_enter Tryz.func38, Tryz.ntmps38
  go_wp2_with (go_at_call 65; refine H.out.mono ?_; rintro e w' ⟨rfl, hb⟩)
  go_ret2
  exact ⟨rfl, hb⟩
end Go.Proofs.YtbanfkpfijcmcaaGreatDoor.Fl

namespace Go.Proofs.YtbanfkpfijcmcaaGreatDoor.Fl
open Go.RowKit
set_option linter.unusedSimpArgs false
set_option linter.unusedVariables false
set_option maxRecDepth 100000

/-- A table's words. -/
def tw (T : Nat) : List ByteArray := (wl.drop (T * 6)).take (nT T)
/-- A piece's bit, besides others. -/
def pstep (T : Nat) (m : Nat) (x : ByteArray) : Nat := if 0 ≤ sidx x 0 (tw T) then m ||| 2 ^ (sidx x 0 (tw T)).toNat else m
def pm (T : Nat) (l : List ByteArray) : Nat := l.foldl (pstep T) 0
/-- The pieces between the plus signs. -/
def pcs (s : ByteArray) : List ByteArray := Lib.splitB ⟨#[43]⟩ 0 (Lib.countB s ⟨#[43]⟩) s

theorem beq_data (a b : ByteArray) : (a.toList == b.toList) = (a.data.toList == b.data.toList) := by
  rw [Bool.eq_iff_iff, Lib.bytes_beq_iff, beq_iff_eq]
  exact ⟨fun h => by rw [h], fun h => WideShapes.bytes_inj h⟩
def lidx (s : List UInt8) : Nat → List (List UInt8) → Int
  | _, [] => -1
  | k, x :: xs => if s == x then (k : Int) else lidx s (k + 1) xs
theorem sidx_data (s : ByteArray) (l : List ByteArray) (k : Nat) : sidx s k l = lidx s.data.toList k (l.map (·.data.toList)) := by
  induction l generalizing k with
  | nil => rfl
  | cons x l ih =>
    rw [sidx, List.map_cons, lidx, beq_data, ih]
def pstepL (T : Nat) (m : Nat) (x : List UInt8) : Nat := if 0 ≤ lidx x 0 ((tw T).map (·.data.toList)) then m ||| 2 ^ (lidx x 0 ((tw T).map (·.data.toList))).toNat else m
theorem pm_data (T : Nat) (l : List ByteArray) : pm T l = (l.map (·.data.toList)).foldl (pstepL T) 0 := by
  unfold pm
  rw [List.foldl_map]
  congr 1
  funext m x
  unfold pstep pstepL
  rw [sidx_data]
theorem back0 : ∀ k : Fin 64, (Lib.split (txL 0 (k.val : Int)) [43]).foldl (pstepL 0) 0 = k.val := by decide +kernel
theorem back1 : ∀ k : Fin 16, (Lib.split (txL 1 (k.val : Int)) [43]).foldl (pstepL 1) 0 = k.val := by decide +kernel
theorem pcs_data (s : ByteArray) : (pcs s).map (·.data.toList) = Lib.split s.data.toList [43] := by
  unfold pcs Lib.split
  rw [Lib.splitB_data]
theorem pm_back (T : Nat) (hT : T < 2) (s : ByteArray) (k : Nat) (hk : k < 2 ^ nT T) (h : txL T (k : Int) = s.data.toList) : pm T (pcs s) = k := by
  rw [pm_data, pcs_data, ← h]
  rcases (show T = 0 ∨ T = 1 by omega) with rfl | rfl
  · exact back0 ⟨k, hk⟩
  · exact back1 ⟨k, hk⟩

theorem sidx_lt (s : ByteArray) (l : List ByteArray) (k : Nat) : sidx s k l < (k + l.length : Nat) := by
  induction l generalizing k with
  | nil => simp [sidx]; omega
  | cons x l ih =>
    rw [sidx]
    split
    · simp only [List.length_cons]; omega
    · have := ih (k + 1); simp only [List.length_cons]; omega
theorem tw_len (T : Nat) (hT : T < 2) : (tw T).length = nT T := by
  rcases (show T = 0 ∨ T = 1 by omega) with rfl | rfl <;> rfl
theorem pstep_lt (T m : Nat) (hT : T < 2) (x : ByteArray) (hm : m < 2 ^ nT T) : pstep T m x < 2 ^ nT T := by
  unfold pstep
  split
  · rename_i h
    have := sidx_lt x (tw T) 0
    rw [tw_len T hT] at this
    exact Nat.or_lt_two_pow hm (Nat.pow_lt_pow_right (by decide) (by omega))
  · exact hm
theorem foldl_lt (T : Nat) (hT : T < 2) (l : List ByteArray) (m : Nat) (hm : m < 2 ^ nT T) : l.foldl (pstep T) m < 2 ^ nT T := by
  induction l generalizing m with
  | nil => exact hm
  | cons x l ih => exact ih _ (pstep_lt T m hT x hm)
theorem pm_lt (T : Nat) (hT : T < 2) (l : List ByteArray) : pm T l < 2 ^ nT T := foldl_lt T hT l 0 (Nat.two_pow_pos _)
theorem pm_take (T : Nat) (l : List ByteArray) (k : Nat) (hk : k < l.length) : pm T (l.take (k + 1)) = pstep T (pm T (l.take k)) l[k] := by
  unfold pm
  rw [List.take_succ_eq_append_getElem hk, List.foldl_append]
  rfl

/-- What parse answers. -/
def paR (T : Nat) (s : ByteArray) : Int := if txL T (pm T (pcs s) : Nat) = s.data.toList then (pm T (pcs s) : Nat) else 0
def paE (T : Nat) (s : ByteArray) : Int := if txL T (pm T (pcs s) : Nat) = s.data.toList then 0 else 50
def RP (T : Nat) (s : ByteArray) (w : World) (e : Ending) (w' : World) : Prop := e = .returned (.tuple #[.int .i64 (paR T s), .int .i64 (paE T s)]) ∧ Below w.heap.size w w'
/-- It is the mask whose words they are, or there is none. -/
theorem pa_cases (T : Nat) (hT : T < 2) (s : ByteArray) : (∃ k : Nat, k < 2 ^ nT T ∧ txL T (k : Int) = s.data.toList ∧ paR T s = k ∧ paE T s = 0 ∧ ∀ j : Nat, j < 2 ^ nT T → txL T (j : Int) = s.data.toList → j = k) ∨ ((∀ k : Nat, k < 2 ^ nT T → txL T (k : Int) ≠ s.data.toList) ∧ paR T s = 0 ∧ paE T s = 50) := by
  by_cases h : txL T (pm T (pcs s) : Nat) = s.data.toList
  · exact .inl ⟨_, pm_lt T hT _, h, if_pos h, if_pos h, fun j hj e => (pm_back T hT s j hj e).symm⟩
  · refine .inr ⟨fun k hk e => h ?_, if_neg h, if_neg h⟩
    rw [pm_back T hT s k hk e]; exact e
end Go.Proofs.YtbanfkpfijcmcaaGreatDoor.Fl
