/- Text. -/
import Derived.WalkMore
import Derived.Test.YtljfnfaljadjdaaDoorU
namespace Go.Proofs.YtljfnfaljadjdaaDoor
open Go.RowKit Go.Shelf
attribute [local go_sem] Oper.semAt_some
set_option linter.unusedSimpArgs false
set_option linter.unusedVariables false
set_option maxRecDepth 100000

theorem eqIn (a b c d : Int) (w : World) : (Op.equalIn 10000 24 (.agg #[.int .u32 a, .int .u32 b]) (.agg #[.int .u32 c, .int .u32 d])).run Tryd.prog w = .ok (a == c && b == d) w := by
  have hu := Tryd.underlying24
  have h22 := Tryd.underlying22
  have hs : ∀ w, (sizeOf 22).run Tryd.prog w = .ok 1 w := fun w => by kernel_rfl
  have e0 : ∀ x y w, (part 22 #[x, y] (0 * 1)).run Tryd.prog w = .ok x w := fun x y w => by kernel_rfl
  have e1 : ∀ x y w, (part 22 #[x, y] (1 * 1)).run Tryd.prog w = .ok y w := fun x y w => by kernel_rfl
  have eq : ∀ (x y : Int) w, (Op.equalIn 9999 22 (.int .u32 x) (.int .u32 y)).run Tryd.prog w = .ok (x == y) w := fun x y w => run_equalIn_int w 9998 22 .u32 .u32 x y h22
  show (Op.equalIn (9999 + 1) 24 _ _).run _ w = _
  rw [Op.equalIn]
  simp only [Sem.run_bind, run_underlying hu, Result.andThen_ok, hs]
  rw [Std.Legacy.Range.forIn_eq_forIn_range', show List.range' (0 : Nat) (Std.Legacy.Range.size [0:2]) = [0, 1] by rfl]
  simp only [List.forIn_cons, List.forIn_nil, Sem.run_bind, e0, eq, Result.andThen_ok]
  cases h1 : (a == c) <;> cases h2 : (b == d) <;> simp [Sem.run_bind, e1, eq, h2, Result.andThen_ok]

/-- Has the set the number i, whatever i? -/
def hasZ (a b : Nat) (i : Int) : Bool := if 0 ≤ i ∧ i < 64 then hasN a b i.toNat else false
theorem has_any (a b : Nat) (fd : Int) (w : World) (ha : a < 4294967296) (hb : b < 4294967296) :
    Calls Tryd.prog 14 #[.agg #[.int .u32 a, .int .u32 b], .int .i64 fd] w fun e w' => e = .returned (.bool (hasZ a b fd)) ∧ Below w.heap.size w w' := by
  unfold hasZ
  by_cases h : 0 ≤ fd ∧ fd < 64
  · rw [if_pos h]; exact has_yes a b fd w ha hb h.1 h.2
  · rw [if_neg h]; exact has_no a b fd w (by omega)

/-- A number's digits. -/
def digB (n : Nat) : ByteArray := ⟨(Lib.decDigits n).toArray⟩
theorem dig_len (n : Nat) (h : n < 100) : (Lib.decDigits n).length ≤ 2 := by
  rw [Lib.decDigits]
  split
  · simp
  · rw [Lib.decDigits, dif_pos (by omega)]; simp
/-- A run from f to x. -/
def runS (f x : Nat) : ByteArray := if f < x then digB f ++ (⟨#[45]⟩ ++ digB x) else digB f
/-- Where the run began, and the runs that are over. -/
def stepT (a b : Nat) (s : Nat × List ByteArray) (x : Nat) : Nat × List ByteArray :=
  (if hasZ a b ((x : Int) - 1) then s.1 else x, if hasZ a b ((x : Int) + 1) then s.2 else s.2 ++ [runS (if hasZ a b ((x : Int) - 1) then s.1 else x) x])
def stT (a b : Nat) (pre : List (Fin 64)) : Nat × List ByteArray := pre.foldl (fun s x => stepT a b s x.val) (0, [])
theorem stT_snoc (a b : Nat) (pre : List (Fin 64)) (x : Fin 64) : stT a b (pre ++ [x]) = stepT a b (stT a b pre) x.val := by simp [stT]
theorem stT_lt (a b : Nat) (pre : List (Fin 64)) : (stT a b pre).1 < 64 ∧ (stT a b pre).2.length ≤ pre.length := by
  have H : ∀ (l : List (Fin 64)) (s : Nat × List ByteArray), s.1 < 64 → (l.foldl (fun s x => stepT a b s x.val) s).1 < 64 ∧ (l.foldl (fun s x => stepT a b s x.val) s).2.length ≤ s.2.length + l.length := by
    intro l
    induction l with
    | nil => intro s h; exact ⟨h, Nat.le_refl _⟩
    | cons x l ih =>
      intro s h
      have h1 : (stepT a b s x.val).1 < 64 := by unfold stepT; dsimp only; split; exact h; exact x.2
      have h2 : (stepT a b s x.val).2.length ≤ s.2.length + 1 := by unfold stepT; dsimp only; split <;> simp
      obtain ⟨i1, i2⟩ := ih _ h1
      exact ⟨i1, by simp only [List.foldl_cons, List.length_cons]; omega⟩
  obtain ⟨h1, h2⟩ := H pre (0, []) (by decide)
  exact ⟨h1, by have h3 : (stT a b pre).2.length ≤ 0 + pre.length := h2; omega⟩

theorem runS_size (f x : Nat) (hf : f < 64) (hx : x < 64) : (runS f x).size ≤ 5 := by
  have d1 := dig_len f (by omega)
  have d2 := dig_len x (by omega)
  have e1 : (digB f).size = (Lib.decDigits f).length := by simp [digB, ByteArray.size]
  have e2 : (digB x).size = (Lib.decDigits x).length := by simp [digB, ByteArray.size]
  have e3 : (⟨#[45]⟩ : ByteArray).size = 1 := rfl
  unfold runS
  split
  · rw [ByteArray.size_append, ByteArray.size_append]; omega
  · omega
theorem stT_small (a b : Nat) (pre : List (Fin 64)) : ∀ y ∈ (stT a b pre).2, y.size ≤ 5 := by
  have H : ∀ (l : List (Fin 64)) (s : Nat × List ByteArray), s.1 < 64 → (∀ y ∈ s.2, y.size ≤ 5) → ∀ y ∈ (l.foldl (fun s x => stepT a b s x.val) s).2, y.size ≤ 5 := by
    intro l
    induction l with
    | nil => intro s _ h; exact h
    | cons x l ih =>
      intro s h h2
      have h1 : (stepT a b s x.val).1 < 64 := by unfold stepT; dsimp only; split; exact h; exact x.2
      refine ih _ h1 ?_
      unfold stepT
      dsimp only
      split
      · exact h2
      · intro y hy
        rcases List.mem_append.1 hy with hy | hy
        · exact h2 y hy
        · rw [List.mem_singleton.1 hy]
          refine runS_size _ _ ?_ x.2
          split
          · exact h
          · exact x.2
  exact H pre (0, []) (by decide) (by simp)
theorem joinTail_len (sep : List UInt8) (r : List (List UInt8)) (k : Nat) (h : ∀ x ∈ r, x.length ≤ k) : (Lib.joinTail sep r).length ≤ r.length * (k + sep.length) := by
  unfold Lib.joinTail
  induction r with
  | nil => simp
  | cons x r ih =>
    have h1 := h x (by simp)
    have h2 := ih (fun y hy => h y (by simp [hy]))
    simp only [List.map_cons, List.flatten_cons, List.length_append, List.length_cons]
    rw [Nat.add_mul]
    omega
theorem join_len (sep : List UInt8) (r : List (List UInt8)) (k : Nat) (h : ∀ x ∈ r, x.length ≤ k) : (Lib.join r sep).length ≤ r.length * (k + sep.length) := by
  cases r with
  | nil => simp [Lib.join_nil]
  | cons x r =>
    rw [Lib.join_cons]
    have h1 := h x (by simp)
    have h2 := joinTail_len sep r k (fun y hy => h y (by simp [hy]))
    simp only [List.length_append, List.length_cons]
    rw [Nat.add_mul]
    omega
theorem stT_join (a b : Nat) (pre : List (Fin 64)) (h : pre.length ≤ 64) : (Lib.join ((stT a b pre).2.map (·.data.toList)) [44]).length ≤ 384 := by
  have h1 := (stT_lt a b pre).2
  have h2 := join_len [44] ((stT a b pre).2.map (·.data.toList)) 5 (fun x hx => by
    obtain ⟨y, hy, rfl⟩ := List.mem_map.1 hx
    have := stT_small a b pre y hy
    show y.data.toList.length ≤ 5
    rw [Array.length_toList]
    exact this)
  simp only [List.length_map, List.length_cons, List.length_nil] at h2
  omega

theorem wpIn_scope_wide {n : Nat} {P : Program} {Q : Exit → Act → World → Prop} {a : Act} {w : World} {c : Code} (h : c.wpIn Fence.wide n P (Exit.noGoto Q) a w) : (Code.scope c).wpIn Fence.wide n P Q a w := wpIn_wide.2 (wp_scope_straight (wpIn_wide.1 h))

theorem info9 : (Tryd.prog.info? 9).map (fun i => (i.zero, i.size, i.bytes)) = some (some (.string ⟨#[]⟩), 1, 16) := by kernel_rfl

/-- What Text holds between two rounds. -/
structure TxI (w : World) (a b : Nat) (s : Nat × List ByteArray) (W : World) : Prop where
  out : ∃ v, Boxed W (w.heap.size + 1) 49 v ∧ W.ownsRow (w.heap.size + 4) 9 1 v s.2.length (s.2.map Value.string)
  fst : Boxed W (w.heap.size + 1 + 1) 3 (.int .i64 (s.1 : Int))
  s0 : Sb W w.heap.size a b
  s3 : Sb W (w.heap.size + 1 + 1 + 1) a b
  bel : Below w.heap.size w W
  sz : w.heap.size + 4 ≤ W.heap.size
theorem not_cells_row {A : World} {base : Nat} {e : TypeId} {sz : Nat} {v : Value} {n : Nat} {xs : List Value} {row : Option Nat} (h : A.ownsRow base e sz v n xs) (hr : ∀ r, row = some r → ∃ o : Obj, A.heap[r]? = some o ∧ o.isCells = false) : v.ownBlock = none ∨ v.ownBlock ≠ row := by
  rcases h.2 with ⟨rfl, _⟩ | ⟨g, cap, cur, rfl, _, hgb, _⟩
  · exact .inl rfl
  · refine .inr fun e' => ?_
    obtain ⟨o, ho, hc⟩ := hr g (by simpa [Value.ownBlock] using e'.symm)
    rw [hgb] at ho; cases ho; cases hc
theorem TxI.ow {w A B : World} {a b : Nat} {s : Nat × List ByteArray} {row : Option Nat} (h : TxI w a b s A) (hg : A.grownBy B row) (hr : ∀ r, row = some r → w.heap.size + 4 ≤ r ∧ ∃ o : Obj, A.heap[r]? = some o ∧ o.isCells = false) : TxI w a b s B := by
  have hr' := fun r e => (hr r e).2
  obtain ⟨v, hv, hrow⟩ := h.out
  refine ⟨⟨v, Boxed.ow hv hg hr', hrow.kept hg (not_cells_row hrow hr')⟩, Boxed.ow h.fst hg hr', h.s0.ow hg hr', h.s3.ow hg hr', ?_, Nat.le_trans h.sz hg.size⟩
  exact h.bel.grown hg (by have := h.sz; omega) (fun k e => by have := (hr k e).1; omega)
theorem Boxed.low {W W1 : World} {g B : Nat} {t : TypeId} {v : Value} (h : Boxed W g t v) (hb : Below B W W1) (hg : g < B) : Boxed W1 g t v := (hb.block g hg).trans h
theorem TxI.later {w W W1 : World} {a b : Nat} {s : Nat × List ByteArray} (h : TxI w a b s W) (hb : Below W.heap.size W W1) : TxI w a b s W1 := by
  obtain ⟨v, hv, hrow⟩ := h.out
  have hsz := h.sz
  exact ⟨⟨v, Boxed.low hv hb hv.lt, hrow.kept (grown_of_below hb none) (by cases e : v.ownBlock <;> simp)⟩, Boxed.low h.fst hb h.fst.lt, h.s0.below hb h.s0.lt, h.s3.below hb h.s3.lt, h.bel.trans (hb.mono (by omega)), Nat.le_trans hsz hb.size⟩
theorem Sb.one {W : World} {g a b B : Nat} (h : Sb W g a b) (u : Value) (hne : g ≠ B) : Sb (W.setCell ⟨B, 0, none⟩ u) g a b := (Below.heap_setCell _ _ _ g hne).trans h
theorem TxI.first {w W : World} {a b : Nat} {s : Nat × List ByteArray} (h : TxI w a b s W) (x : Nat) : TxI w a b (x, s.2) (W.setCell ⟨w.heap.size + 1 + 1, 0, none⟩ (.int .i64 (x : Int))) := by
  obtain ⟨v, hv, hrow⟩ := h.out
  refine ⟨⟨v, hv.other (by omega) _, hrow.kept (grownBy_setCell' W _ _) (.inr fun e => ?_)⟩, h.fst.set _, h.s0.one _ (by omega), h.s3.one _ (by omega), h.bel.setCell (by simp; omega) _, ?_⟩
  · have := (hrow.lt _ e).1; omega
  · exact Nat.le_trans h.sz (KeepsOthers.setCell W _ _).size
theorem TxI.app {w W w1 : World} {a b : Nat} {s : Nat × List ByteArray} {v v' : Value} {o : Obj} {x : ByteArray} (h : TxI w a b s W) (hv : Boxed W (w.heap.size + 1) 49 v) (hrow : W.ownsRow (w.heap.size + 4) 9 1 v s.2.length (s.2.map Value.string))
    (hr : w1.ownsRow (w.heap.size + 4) 9 1 v' (s.2.length + 1) (s.2.map Value.string ++ [.string x])) (g : (W.alloc o).grownBy w1 v.ownBlock) :
    Boxed w1 (w.heap.size + 1) 49 v ∧ TxI w a b (s.1, s.2 ++ [x]) (w1.setCell ⟨w.heap.size + 1, 0, none⟩ v') ∧ KeepsOthers W (w1.setCell ⟨w.heap.size + 1, 0, none⟩ v') ∧ KB (w.heap.size + 1 + 1 + 1) W (w1.setCell ⟨w.heap.size + 1, 0, none⟩ v') := by
  have hb : Below (w.heap.size + 4) W w1 := below_append (Below.refl _ W) hrow g (Nat.le_refl _) h.sz
  have hv1 := Boxed.low hv hb (by omega)
  have hsz := h.sz
  refine ⟨hv1, ⟨⟨v', hv1.set _, by have := hr.kept (grownBy_setCell' w1 (w.heap.size + 1) v') (.inr fun e => by have := (hr.lt _ e).1; omega); simpa using this⟩, (Boxed.low h.fst hb (by omega)).other (by omega) _, (h.s0.below hb (by omega)).one _ (by omega), (h.s3.below hb (by omega)).one _ (by omega), ?_, ?_⟩, ?_, ?_⟩
  · exact (h.bel.trans (hb.mono (by omega))).setCell (by simp) _
  · exact Nat.le_trans (Nat.le_trans hsz hb.size) (KeepsOthers.setCell w1 _ _).size
  · refine ((KeepsOthers.alloc W o).trans (KeepsOthers.of_grownBy g fun j o' ej hj => ?_)).trans (KeepsOthers.setCell _ _ _)
    rcases (hrow.alloc o).2 with ⟨rfl, _⟩ | ⟨g', cap, cur, rfl, _, hgb, _⟩
    · simp [Value.ownBlock] at ej
    · obtain rfl : g' = j := by simpa [Value.ownBlock] using ej
      rw [hgb] at hj; cases hj; rfl
  · exact KB.t (KB.below hb (by omega)) (KB.set _ _ _ (by simp; omega))

theorem join_row {W : World} {base : Nat} {v : Value} {xs : List ByteArray} (hrow : W.ownsRow base 9 1 v xs.length (xs.map Value.string)) (hl : xs.length ≤ 64) (hjn : (Lib.join (xs.map (·.data.toList)) [44]).length ≤ 384) :
    Calls Tryd.prog 39 #[v, .string ⟨#[44]⟩] W fun e W' => e = .returned (.string ⟨(Lib.join (xs.map (·.data.toList)) [44]).toArray⟩) ∧ Below W.heap.size W W' := by
  rcases hrow.2 with ⟨rfl, h0⟩ | ⟨g, cap, cur, rfl, hb, hh, hn, _⟩
  · have : xs = [] := List.eq_nil_of_length_eq_zero h0
    subst this
    exact (Tryd.strings_Join_none none 0 _ W).mono (by rintro e W' ⟨rfl, rfl⟩; exact ⟨rfl, Below.refl _ _⟩)
  · refine Tryd.strings_Join g 0 cap xs ⟨#[44]⟩ W (fun j x hx => ?_) (lt_of_block hh) (by omega) hn (Nat.le_trans hjn (by omega))
    have hj : j < xs.length := (List.getElem?_eq_some_iff.1 hx).1
    rw [Nat.zero_add, hrow.cellAt j (by omega), List.getElem?_map, hx]; rfl

set_option maxHeartbeats 4000000 in
theorem text_in (n : Nat) (hn : 3 ≤ n) (a b : Nat) (w : World) (ha : a < 4294967296) (hb : b < 4294967296) (hne : ((a : Int) == 0 && (b : Int) == 0) = false) :
    CallsIn Fence.wide n Tryd.prog 25 #[.agg #[.int .u32 a, .int .u32 b]] w fun e W' => ∃ q, vals q = L a b ∧ e = .returned (.string ⟨(Lib.join ((stT a b q).2.map (·.data.toList)) [44]).toArray⟩) ∧ Below w.heap.size w W' := by
  have h1 : 1 ≤ n := by omega
  have h2 : 1 ≤ n - 1 - 1 := by omega
  have EQ : ∀ w, (Op.equalIn 10000 24 (.agg #[.int .u32 a, .int .u32 b]) (.agg #[.int .u32 0, .int .u32 0])).run Tryd.prog w = .ok false w := fun w => by rw [eqIn, hne]
  obtain ⟨i9, hi9, hz9, hs9, hy9⟩ := info_parts info9
  have I9 := Lib.hid hi9; have Z9 := Lib.hid hz9; have S9 := Lib.hid hs9; have Y9 := Lib.hid hy9
  clear hi9 hz9 hs9 hy9 hne
  refine callsIn_of_wp_marks Tryd.func25 rfl trivial ?_ rfl
  simp only [Tryd.ntmps25, List.size_toArray, List.length_cons, List.length_nil, Nat.reduceAdd, Nat.reduceSub, Array.replicate_succ, Array.replicate_zero, List.push_toArray, List.append_toArray, List.nil_append, List.cons_append]
  gi_wp2_with fail
  refine wpIn_scope_wide ?_
  gi_wp2_with fail
  refine wpIn_label ?_
  gi_wp2_with fail
  refine ⟨trivial, (callsIn_wide.2 (all_any a b _)).mono ?_⟩
  rintro e w' ⟨rfl, rfl⟩
  gi_wp2_with fail
  clear EQ
  obtain ⟨W0, hW0⟩ : ∃ W0, W0 = ((((w.alloc (.cells #[.int .u32 a, .int .u32 b] 24)).alloc (.cells #[.slice none 0 0] 49)).alloc (.cells #[.int .i64 0] 3)).alloc (.cells #[.int .u32 a, .int .u32 b] 24)) := ⟨_, rfl⟩
  have hsz : W0.heap.size = w.heap.size + 4 := by rw [hW0]; simp
  have T0 : TxI w a b (0, []) W0 := by
    have q0 := Sb.new w a b
    have q1 := Boxed.new (w.alloc (.cells #[.int .u32 a, .int .u32 b] 24)) 49 (.slice none 0 0)
    have q2 := Boxed.new ((w.alloc (.cells #[.int .u32 a, .int .u32 b] 24)).alloc (.cells #[.slice none 0 0] 49)) 3 (.int .i64 0)
    have q3 := Sb.new (((w.alloc (.cells #[.int .u32 a, .int .u32 b] 24)).alloc (.cells #[.slice none 0 0] 49)).alloc (.cells #[.int .i64 0] 3)) a b
    simp only [World.size_alloc] at q1 q2 q3
    rw [hW0]
    refine ⟨⟨_, (q1.alloc _).alloc _, World.ownsRow_nil _ _ _ _⟩, q2.alloc _, ((q0.below ((Below.refl _ _).alloc (Nat.le_refl _) _) q0.lt).below ((Below.refl _ _).alloc (Nat.le_refl _) _) (by simp; omega)).below ((Below.refl _ _).alloc (Nat.le_refl _) _) (by simp; omega), q3, ((((Below.refl _ w).alloc (Nat.le_refl _) _).alloc (by simp) _).alloc (by simp; omega) _).alloc (by simp; omega) _, by simp⟩
  rw [← hW0]
  clear hW0
  refine wpIn_rangeFunc_ownG rfl h1 (gf := 43) (lb := #[.pointer (some ⟨w.heap.size + 1 + 1 + 1, 0, none⟩)]) rfl trivial (enters_of Tryd.func43 (by kernel_rfl) rfl)
    (all_stopsF (n - 1) (by omega) (w.heap.size + 1 + 1 + 1) a b ha hb W0 T0.s3) KB.t (KB.b (by omega)) (Below.refl _ _) (fun _ => rfl)
    (fun pre W => TxI w a b (stT a b pre) W)
    (fun _ _ _ => False)
    (fun s A B row hs hg hr => TxI.ow hs hg (fun r e => by have := hr r e; rw [hsz] at this; exact this)) (fun _ _ _ _ _ hs _ _ => hs) T0
    (fun x => { tmps := #[.agg #[.int .u32 a, .int .u32 b], .pointer (some ⟨w.heap.size, 0, none⟩), .string ⟨#[]⟩, .pointer (some ⟨w.heap.size + 1, 0, none⟩), .pointer (some ⟨w.heap.size + 1 + 1, 0, none⟩), .int .i64 (x.val : Int), undef, .agg #[.int .u32 a, .int .u32 b], .agg #[.int .u32 0, .int .u32 0], .bool false, .agg #[.int .u32 a, .int .u32 b], .func (.func 43) #[] #[.pointer (some ⟨w.heap.size + 1 + 1 + 1, 0, none⟩)], .int .i64 (x.val : Int), undef, undef, undef, undef, undef, undef, undef, undef, undef, undef, undef, undef, undef, undef, undef, undef, undef, undef, undef, undef, undef, undef, undef, undef, undef, undef], defers := [] }) ?assign ?body ?done ?stop
  case assign =>
    intro l x W K hK
    gi_wp2
    exact hK
  case body =>
    rintro l pre x W T hlen
    have HS := Lib.hid (stT_snoc a b pre x)
    obtain ⟨hs1, hs2⟩ := stT_lt a b pre
    generalize stT a b pre = s at *
    obtain ⟨k, hk⟩ := x
    dsimp only at HS
    dsimp only
    obtain ⟨x0, x1⟩ := T.s0.cells
    gi_wp2_with fail
    refine ⟨trivial, ?_⟩
    refine (CallsIn.inRound l (callsIn_wide.2 (has_any a b _ _ ha hb))).mono ?_
    rintro e w1 ⟨he, b1⟩
    have T1 := T.later b1
    have K1 : KeepsOthers W w1 ∧ KB (w.heap.size + 1 + 1 + 1) W w1 := ⟨keeps_below (B := 0) b1, KB.below b1 T.s3.lt⟩
    clear T b1 x0 x1
    cases hv : hasZ a b ((k : Int) - 1)
    · rw [hv] at he
      subst he
      have H1 := Lib.hid hv; clear hv
      have f1 := T1.fst.cell
      have f2 := T1.fst.frozen
      have T2 := T1.first k
      have K2 : KeepsOthers W (w1.setCell ⟨w.heap.size + 1 + 1, 0, none⟩ (.int .i64 (k : Int))) ∧ KB (w.heap.size + 1 + 1 + 1) W (w1.setCell ⟨w.heap.size + 1 + 1, 0, none⟩ (.int .i64 (k : Int))) := ⟨K1.1.trans (KeepsOthers.setCell _ _ _), KB.t K1.2 (KB.set _ _ _ (by simp))⟩
      obtain ⟨x0, x1⟩ := T2.s0.cells
      gi_wp2_with fail
      refine ⟨trivial, ?_⟩
      refine (CallsIn.inRound l (callsIn_wide.2 (has_any a b _ _ ha hb))).mono ?_
      rintro e w3 ⟨he, b3⟩
      have T3 := T2.later b3
      have K3 : KeepsOthers W w3 ∧ KB (w.heap.size + 1 + 1 + 1) W w3 := ⟨K2.1.trans (keeps_below (B := 0) b3), KB.t K2.2 (KB.below b3 T2.s3.lt)⟩
      clear T2 T1 K1 K2 b3 x0 x1 f1 f2
      cases hv2 : hasZ a b ((k : Int) + 1)
      · rw [hv2] at he
        subst he
        have H2 := Lib.hid hv2; clear hv2
        have f3 := T3.fst.cell
        gi_wp2_with fail
        refine ⟨trivial, ?_⟩
        refine (CallsIn.inRound l (callsIn_wide.2 (Tryd.strconv_Itoa_small k (by omega) _))).mono ?_
        rintro e w4 ⟨rfl, rfl⟩
        have hlt : ¬ k < k := by omega
        have T3' : TxI w a b (k, s.2) w4 := T3
        obtain ⟨v, hv9, hrow⟩ := T3'.out
        have c9 := hv9.cell
        gi_wp2_with (gi_at_builtin; refine wpListIn_append_own _ rfl _ _ 49 rfl (w.heap.size + 4) 9 i9 (.string ⟨#[]⟩) 1 16 Tryd.underlying49 I9.out Z9.out S9.out Y9.out rfl (by decide) _ _ _ rfl (hrow.alloc _) ⟨_, 0, none⟩ 1 1 [.string (⟨(Lib.decDigits k).toArray⟩)] rfl rfl (cell_one_new _ _ _) (by simp [Value.oneCell']) (by unfold maxLen; omega) (by omega) (by have := T3'.sz; simp; omega) ?_; intro v' w5 hown' hgrow _; obtain ⟨g', cap', rfl⟩ := ownsRow_succ hown'; obtain ⟨hv1, T6, K6, B6⟩ := TxI.app (x := ⟨(Lib.decDigits k).toArray⟩) T3' hv9 hrow hown' hgrow; have hc1 := hv1.cell; have hf1 := hv1.frozen; clear hown' hgrow)
        exact ⟨(K3.1.trans K6).from _, KB.t K3.2 B6, by show TxI w a b (stT a b _) _; rw [HS.out]; unfold stepT; simp only [H1.out, H2.out, if_true, if_false, Bool.false_eq_true, runS, hlt]; exact T6⟩
      · rw [hv2] at he
        subst he
        have H2 := Lib.hid hv2; clear hv2
        gi_wp2_with fail
        exact ⟨K3.1.from _, K3.2, by show TxI w a b (stT a b _) _; rw [HS.out]; unfold stepT; simp only [H1.out, H2.out, if_true, if_false, Bool.false_eq_true]; exact T3⟩
    · rw [hv] at he
      subst he
      have H1 := Lib.hid hv; clear hv
      have T2 : TxI w a b (s.1, s.2) w1 := T1
      have K2 := K1
      obtain ⟨x0, x1⟩ := T2.s0.cells
      gi_wp2_with fail
      refine ⟨trivial, ?_⟩
      refine (CallsIn.inRound l (callsIn_wide.2 (has_any a b _ _ ha hb))).mono ?_
      rintro e w3 ⟨he, b3⟩
      have T3 := T2.later b3
      have K3 : KeepsOthers W w3 ∧ KB (w.heap.size + 1 + 1 + 1) W w3 := ⟨K2.1.trans (keeps_below (B := 0) b3), KB.t K2.2 (KB.below b3 T2.s3.lt)⟩
      clear T2 T1 K1 K2 b3 x0 x1
      cases hv2 : hasZ a b ((k : Int) + 1)
      · rw [hv2] at he
        subst he
        have H2 := Lib.hid hv2; clear hv2
        have f3 := T3.fst.cell
        gi_wp2_with fail
        refine ⟨trivial, ?_⟩
        refine (CallsIn.inRound l (callsIn_wide.2 (Tryd.strconv_Itoa_small s.1 (by omega) _))).mono ?_
        rintro e w4 ⟨rfl, rfl⟩
        have T3' : TxI w a b (s.1, s.2) w4 := T3
        by_cases hlt : s.1 < k
        · gi_wp2_with fail
          refine ⟨trivial, ?_⟩
          refine (CallsIn.inRound l (callsIn_wide.2 (Tryd.strconv_Itoa_small k (by omega) _))).mono ?_
          rintro e w6 ⟨rfl, rfl⟩
          have d1 := dig_len s.1 (by omega)
          have d2 := dig_len k (by omega)
          obtain ⟨v, hv9, hrow⟩ := T3'.out
          have c9 := hv9.cell
          gi_wp2_with (gi_at_builtin; refine wpListIn_append_own _ rfl _ _ 49 rfl (w.heap.size + 4) 9 i9 (.string ⟨#[]⟩) 1 16 Tryd.underlying49 I9.out Z9.out S9.out Y9.out rfl (by decide) _ _ _ rfl (hrow.alloc _) ⟨_, 0, none⟩ 1 1 [.string ((⟨(Lib.decDigits s.1).toArray⟩ ++ (⟨#[45]⟩ ++ ⟨(Lib.decDigits k).toArray⟩) : ByteArray))] rfl rfl (cell_one_new _ _ _) (by simp [Value.oneCell']) (by unfold maxLen; omega) (by omega) (by have := T3'.sz; simp; omega) ?_; intro v' w5 hown' hgrow _; obtain ⟨g', cap', rfl⟩ := ownsRow_succ hown'; obtain ⟨hv1, T6, K6, B6⟩ := TxI.app (x := (⟨(Lib.decDigits s.1).toArray⟩ ++ (⟨#[45]⟩ ++ ⟨(Lib.decDigits k).toArray⟩) : ByteArray)) T3' hv9 hrow hown' hgrow; have hc1 := hv1.cell; have hf1 := hv1.frozen; clear hown' hgrow)
          exact ⟨(K3.1.trans K6).from _, KB.t K3.2 B6, by show TxI w a b (stT a b _) _; rw [HS.out]; unfold stepT; simp only [H1.out, H2.out, if_true, if_false, Bool.false_eq_true, runS, hlt]; exact T6⟩
        · obtain ⟨v, hv9, hrow⟩ := T3'.out
          have c9 := hv9.cell
          gi_wp2_with (gi_at_builtin; refine wpListIn_append_own _ rfl _ _ 49 rfl (w.heap.size + 4) 9 i9 (.string ⟨#[]⟩) 1 16 Tryd.underlying49 I9.out Z9.out S9.out Y9.out rfl (by decide) _ _ _ rfl (hrow.alloc _) ⟨_, 0, none⟩ 1 1 [.string (⟨(Lib.decDigits s.1).toArray⟩)] rfl rfl (cell_one_new _ _ _) (by simp [Value.oneCell']) (by unfold maxLen; omega) (by omega) (by have := T3'.sz; simp; omega) ?_; intro v' w5 hown' hgrow _; obtain ⟨g', cap', rfl⟩ := ownsRow_succ hown'; obtain ⟨hv1, T6, K6, B6⟩ := TxI.app (x := ⟨(Lib.decDigits s.1).toArray⟩) T3' hv9 hrow hown' hgrow; have hc1 := hv1.cell; have hf1 := hv1.frozen; clear hown' hgrow)
          exact ⟨(K3.1.trans K6).from _, KB.t K3.2 B6, by show TxI w a b (stT a b _) _; rw [HS.out]; unfold stepT; simp only [H1.out, H2.out, if_true, if_false, Bool.false_eq_true, runS, hlt]; exact T6⟩
      · rw [hv2] at he
        subst he
        have H2 := Lib.hid hv2; clear hv2
        gi_wp2_with fail
        exact ⟨K3.1.from _, K3.2, by show TxI w a b (stT a b _) _; rw [HS.out]; unfold stepT; simp only [H1.out, H2.out, if_true, if_false, Bool.false_eq_true]; exact T3⟩
  case done =>
    rintro D ys W hD hys T hK
    have hle := (stT_lt a b ys).2
    have hl2 : ys.length ≤ 64 := by have := congrArg List.length hys; rw [vals_len] at this; rw [this]; exact lst_len _ _
    have hjn := stT_join a b ys hl2
    obtain ⟨v, hv, hrow⟩ := T.out
    have c9 := hv.cell
    have HJ := Lib.hid (join_row hrow (by omega) hjn)
    clear hjn hle hl2 hrow
    generalize hst : (⟨(Lib.join ((stT a b ys).2.map (·.data.toList)) [44]).toArray⟩ : ByteArray) = tx at HJ
    have HT := Lib.hid hst; clear hst
    gi_wp2_with fail
    refine ⟨trivial, ?_⟩
    refine (callsIn_wide.2 HJ.out).mono ?_
    rintro e W2 ⟨rfl, b2⟩
    have hK2 : W2.heap[D]? = some (.deferred (some [])) := (b2.block D (Array.getElem?_eq_some_iff.1 hK).1).trans hK
    gi_wp2_with fail
    refine ⟨by simp, .inl ⟨_, _, rfl, run_takeDeferred hK2, ?_⟩⟩
    refine ⟨_, results_tmp rfl _ _ _, ys, hys, by rw [HT.out]; rfl, ?_⟩
    exact (T.bel.trans (b2.mono (by have := T.sz; omega))).trans (belowK_b (w := w) (Nat.le_refl _) _ D _ _ (by omega) hK2 rfl rfl)
  case stop =>
    rintro D c pre W _ _ h _
    exact h.elim

/-- A set's numbers, as numbers below 64. -/
def LF (a b : Nat) : List (Fin 64) := (List.finRange 64).filter (fun i => hasN a b i.val)
theorem range_fin : (List.finRange 64).map (fun i => i.val) = List.range 64 := by decide
theorem vals_LF (a b : Nat) : vals (LF a b) = L a b := by
  unfold vals LF L lst
  rw [← range_fin, List.filter_map, List.map_map]
  rfl
theorem vals_inj (p q : List (Fin 64)) (h : vals p = vals q) : p = q := by
  unfold vals at h
  induction p generalizing q with
  | nil => cases q with
    | nil => rfl
    | cons y q => simp at h
  | cons x p ih => cases q with
    | nil => simp at h
    | cons y q =>
      simp only [List.map_cons, List.cons.injEq] at h
      obtain ⟨h1, h2⟩ := h
      rw [ih q h2, Fin.ext (show x.val = y.val by omega)]
/-- The text of a set. -/
def textL (a b : Nat) : List UInt8 := if ((a : Int) == 0 && (b : Int) == 0) then [110, 111, 110, 101] else Lib.join ((stT a b (LF a b)).2.map (·.data.toList)) [44]

theorem text_any (a b : Nat) (w : World) (ha : a < 4294967296) (hb : b < 4294967296) :
    Calls Tryd.prog 25 #[.agg #[.int .u32 a, .int .u32 b]] w fun e W' => e = .returned (.string ⟨(textL a b).toArray⟩) ∧ Below w.heap.size w W' := by
  cases hne : ((a : Int) == 0 && (b : Int) == 0)
  · refine ((callsIn_wide (n := 3)).1 (text_in 3 (Nat.le_refl _) a b w ha hb hne)).mono ?_
    rintro e W' ⟨q, hq, rfl, hbel⟩
    obtain rfl : q = LF a b := vals_inj _ _ (hq.trans (vals_LF a b).symm)
    exact ⟨by unfold textL; rw [hne]; rfl, hbel⟩
  · have h1 : a = 0 ∧ b = 0 := by simp at hne; omega
    obtain ⟨rfl, rfl⟩ := h1
    clear hne
    have EQ : ∀ w, (Op.equalIn 10000 24 (.agg #[.int .u32 0, .int .u32 0]) (.agg #[.int .u32 0, .int .u32 0])).run Tryd.prog w = .ok true w := fun w => eqIn 0 0 0 0 w
    have e0 : textL 0 0 = [110, 111, 110, 101] := by rfl
    rw [e0]
    clear e0
    simp only [Int.natCast_zero]
    go_enter Tryd.func25, Tryd.ntmps25
    go_wp2
    go_step3
    go_wp2
    rw [Exit.noGoto_ret]
    go_ret
    exact ⟨rfl, (Below.refl _ _).alloc (Nat.le_refl _) _⟩
end Go.Proofs.YtljfnfaljadjdaaDoor
