/- Look: what Take would tell. -/
import Derived.Test.YtebnfcpikhehkaaB
namespace Go.Proofs.Ytebnfcpikhehkaa
open Go.RowKit Go.Shelf
attribute [local go_sem] Oper.semAt_some
set_option linter.unusedSimpArgs false
set_option linter.unusedVariables false
set_option maxRecDepth 100000

theorem not_cells_row {A : World} {base : Nat} {e : TypeId} {sz : Nat} {v : Value} {n : Nat} {xs : List Value} {r : Nat} (h : A.ownsRow base e sz v n xs) (hr : ∃ o : Obj, A.heap[r]? = some o ∧ o.isCells = false) : v.ownBlock = none ∨ v.ownBlock ≠ some r := by
  rcases h.2 with ⟨rfl, _⟩ | ⟨g, cap, cur, rfl, _, hgb, _⟩
  · exact .inl rfl
  · refine .inr fun e' => ?_
    obtain ⟨o, ho, hc⟩ := hr
    obtain rfl : g = r := by simpa [Value.ownBlock] using e'
    rw [hgb] at ho; cases ho; cases hc

/-- What Look holds between two rounds. -/
structure LkI (w : World) (g gb C fr0 n0 fr : Nat) (ip op : Int) (cs : List Int) (s : List (Nat × Nat)) (W : World) : Prop where
  out : ∃ v, Boxed W w.heap.size 22 v ∧ W.ownsRow (w.heap.size + 4) 5 1 v (sm s) ((rd cs fr (sm s)).map (Value.int .u8))
  rk : Rk W g gb C fr0 n0 ip op
  bx : By W gb cs
  bel : Below w.heap.size w W
  sz : w.heap.size + 4 ≤ W.heap.size
theorem LkI.own {w A B : World} {g gb C fr0 n0 fr n₀ : Nat} {ip op : Int} {cs : List Int} {s : List (Nat × Nat)} {row : Option Nat} (h : LkI w g gb C fr0 n0 fr ip op cs s A) (hg : g < w.heap.size) (hb : gb < w.heap.size) (hgr : A.grownBy B row)
    (hn₀ : w.heap.size + 4 ≤ n₀) (hr : ∀ r, row = some r → (r = w.heap.size + 3 ∨ r = w.heap.size + 2) ∨ (n₀ ≤ r ∧ ∃ o : Obj, A.heap[r]? = some o ∧ o.isCells = false)) : LkI w g gb C fr0 n0 fr ip op cs s B := by
  obtain ⟨v, hv, hrow⟩ := h.out
  have hlo : ∀ k, k < w.heap.size + 1 → some k ≠ row := fun k hk e => by have := hr k e.symm; omega
  have key : ∀ k, k < w.heap.size + 1 → k < A.heap.size → B.heap[k]? = A.heap[k]? := fun k hk hl => hgr.block k hl (hlo k hk)
  refine ⟨⟨v, (key _ (by omega) hv.lt).trans hv, hrow.kept hgr ?_⟩, (key _ (by omega) h.rk.lt).trans h.rk, (key _ (by omega) h.bx.lt).trans h.bx, ?_, Nat.le_trans h.sz hgr.size⟩
  · cases row with
    | none => exact (by cases hv2 : v.ownBlock with | none => exact .inl rfl | some k => exact .inr (by simp))
    | some r =>
      rcases hr r rfl with h1 | ⟨_, h2⟩
      · refine .inr fun e => ?_
        have := (hrow.lt _ e).1
        omega
      · exact not_cells_row hrow h2
  · exact h.bel.grown hgr (by have := h.sz; omega) (fun k e => by have := hr k e; omega)

theorem LkI.app {w W w1 : World} {g gb C fr0 n0 fr : Nat} {ip op : Int} {cs : List Int} {s : List (Nat × Nat)} {x : Nat × Nat} {v v' : Value} {news : List Value} (h : LkI w g gb C fr0 n0 fr ip op cs s W) (hgl : g < w.heap.size) (hgb : gb < w.heap.size) (hv : Boxed W w.heap.size 22 v)
    (hrow : W.ownsRow (w.heap.size + 4) 5 1 v (sm s) ((rd cs fr (sm s)).map (Value.int .u8))) (hr : w1.ownsRow (w.heap.size + 4) 5 1 v' (sm s + x.2) ((rd cs fr (sm s)).map (Value.int .u8) ++ news)) (hg : W.grownBy w1 v.ownBlock)
    (e : (rd cs fr (sm s + x.2)).map (Value.int .u8) = (rd cs fr (sm s)).map (Value.int .u8) ++ news) :
    Boxed w1 w.heap.size 22 v ∧ LkI w g gb C fr0 n0 fr ip op cs (s ++ [x]) (w1.setCell ⟨w.heap.size, 0, none⟩ v') ∧ KeepsOthers W (w1.setCell ⟨w.heap.size, 0, none⟩ v') ∧ KR (w.heap.size + 3) (w.heap.size + 2) (w.heap.size + 1) g W (w1.setCell ⟨w.heap.size, 0, none⟩ v') := by
  have hsz := h.sz
  have hb : Below (w.heap.size + 4) W w1 := (Below.refl _ W).grown hg (by omega) (fun k e => (hrow.lt k e).1)
  have hv1 : Boxed w1 w.heap.size 22 v := (hb.block _ (by omega)).trans hv
  have oth : ∀ k, k < w.heap.size + 4 → k ≠ w.heap.size → (w1.setCell ⟨w.heap.size, 0, none⟩ v').heap[k]? = W.heap[k]? := fun k hk hne => (Below.heap_setCell _ _ _ _ (by simpa using hne)).trans (hb.block k hk)
  refine ⟨hv1, ⟨⟨v', hv1.set _, ?_⟩, (oth _ (by omega) (by omega)).trans h.rk, (oth _ (by omega) (by omega)).trans h.bx, ?_, ?_⟩, ?_, ⟨oth _ (by omega) (by omega), oth _ (by omega) (by omega), oth _ (by omega) (by omega), oth _ (by omega) (by omega)⟩⟩
  · rw [sm_snoc, e]
    exact hr.kept (grownBy_setCell' w1 w.heap.size v') (by
      cases hv2 : v'.ownBlock with
      | none => exact .inl rfl
      | some k => exact .inr fun e => by have := (hr.lt k hv2).1; simp at e; omega)
  · exact (h.bel.trans (hb.mono (by omega))).setCell (by simp) _
  · exact Nat.le_trans (Nat.le_trans hsz hb.size) (KeepsOthers.setCell w1 _ _).size
  · refine (KeepsOthers.of_grownBy hg fun j o' ej hj => ?_).trans (KeepsOthers.setCell _ _ _)
    rcases hrow.2 with ⟨rfl, _⟩ | ⟨g', cap, cur, rfl, _, hgb, _⟩
    · simp [Value.ownBlock] at ej
    · obtain rfl : g' = j := by simpa [Value.ownBlock] using ej
      rw [hgb] at hj; cases hj; rfl
theorem by_cell {W : World} {gb : Nat} {cs : List Int} (h : By W gb cs) (a l : Nat) (j : Nat) (u : Value) (hu : (((cs.drop a).take l).map (Value.int .u8))[j]? = some u) : W.cell? ((⟨gb, a, none⟩ : Addr).add j) = some u := by
  have e : (⟨gb, a, none⟩ : Addr).add j = ⟨gb, a + j, none⟩ := by
    unfold Addr.add; split
    · rename_i h; subst h; rfl
    · rfl
  rw [e]
  unfold By at h
  rw [List.getElem?_map, List.getElem?_take] at hu
  by_cases hj : j < l
  · rw [if_pos hj, List.getElem?_drop] at hu
    simp [World.cell?, h]
    simpa using hu
  · rw [if_neg hj] at hu; cases hu
theorem wpIn_range_st' {α : Type} {F : Fence} {n : Nat} {P : Program} {g : Operand} {ps : Array Tmp} {assign body : Code} {Q : Exit → Act → World → Prop} {a : Act} {w : World}
    (encs : α → Array Value) (S : Nat → Prop) (Kp : World → World → Prop) (L : List α) (I : List α → World → Prop) {gf : Nat} {lb : Array Value} 
    (hro : F.round = none) (h1 : 1 ≤ n) (hg : a.eval g = .func (.func gf) #[] lb) (hFg : F.fn gf) (eg : ∀ args w, (callFunc gf args).run P w = .ok (.enter gf args) w)
    (hS : ∀ r, S r → r < w.heap.size) (hseq : SeqSt F (n - 1) P gf lb encs S Kp L w)
    (hKt : ∀ {A B C : World}, Kp A B → Kp B C → Kp A C) (hKb : ∀ (W : World) (l : Nat) (o o' : Obj), w.heap.size ≤ l → W.heap[l]? = some o → o.isCells = false → Kp W (W.putObj l o')) (hps : ∀ x, (encs x).size = ps.size)
    (hI : OwnSt S w.heap.size I) (h0 : I [] w)
    (h : ∃ a₁ : α → Act, (∀ (l : Nat) (x : α) (W : World) (K : Act → World → Prop), K (a₁ x) W →
      assign.wpIn (F.inRound l) (n - 1 - 1) P (Exit.then K (fun _ _ _ => False)) { tmps := (ps.zip (encs x)).foldl (fun t (p, v) => t.setIfInBounds p v) a.tmps, defers := [] } W) ∧
    (∀ (l : Nat) (pre : List α) (x : α) (W : World), I pre W → pre ++ [x] <+: L → body.wpIn (F.inRound l) (n - 1 - 1) P (endSt w.heap.size Kp I (pre ++ [x]) W) (a₁ x) W) ∧
    (∀ (D : Nat) (W : World), w.heap.size ≤ D → I L W → W.heap[D]? = some (.deferred (some [])) → Q .normal { a with defers := { target := .collected D, args := #[] } :: a.defers } W)) :
    (Code.rangeFunc g ps assign body).wpIn F n P Q a w := by
  obtain ⟨a₁, h2, h3, h4⟩ := h
  exact wpIn_range_st hro h1 hg hFg eg hS hseq hKt hKb hps I hI h0 a₁ h2 h3 h4

set_option maxHeartbeats 4000000 in
theorem look_in (n : Nat) (hn : 3 ≤ n) (g gb C fr n0 k : Nat) (ip op : Int) (cs : List Int) (m : Int) (w : World) (rk : Rk w g gb C fr n0 ip op) (hb : By w gb cs) (hcs : cs.length = C) (hC : C ≤ 65536) (hn0 : n0 ≤ C) (hfr : fr ≤ C) (hm0 : 0 < m) (hk : (k : Int) = min m n0) (h0 : 0 < n0) :
    CallsIn Fence.wide n Try.prog 15 #[.pointer (some ⟨g, 0, none⟩), .int .i64 m] w fun e W' => (∃ v, e = .returned v ∧ W'.ownsRow (w.heap.size + 4) 5 1 v k ((rd cs fr k).map (Value.int .u8))) ∧ Below w.heap.size w W' := by
  have h1 : 1 ≤ n := by omega
  have h2 : 1 ≤ n - 1 - 1 := by omega
  obtain ⟨i5, hi5, hz5, hs5, hy5⟩ := info_parts info5
  have I9 := Lib.hid hi5; have Z9 := Lib.hid hz5; have S9 := Lib.hid hs5; have Y9 := Lib.hid hy5
  clear hi5 hz5 hs5 hy5
  have hgl := rk.lt
  have hgbl := hb.lt
  have HK := Lib.hid hk
  have hk0 : 0 < k := by omega
  have hkn : k ≤ n0 := by omega
  clear hk
  have HL := Lib.hid (fun (W : World) (b : Below w.heap.size w W) => len_any g gb C fr n0 ip op W ((b.block _ hgl).trans rk))
  obtain ⟨k0, k1, k2, k3, k4, k5, z0, z1, z2, z3, z4⟩ := rk.cells
  clear k0 k2 k3 k4 k5 z0 z1 z2 z3 z4
  have RK := Lib.hid rk
  have HB := Lib.hid hb
  clear rk hb
  have hcase : ((n0 : Int) < m ∧ k = n0) ∨ ((k : Int) ≤ n0 ∧ m = (k : Int)) := by have := HK.out; omega
  clear HK hm0
  rcases hcase with ⟨hc, rfl⟩ | ⟨hc, rfl⟩
  all_goals
    refine callsIn_of_wp_marks Try.func15 rfl trivial ?_ rfl
    simp only [Try.ntmps15, List.size_toArray, List.length_cons, List.length_nil, Nat.reduceAdd, Nat.reduceSub, Array.replicate_succ, Array.replicate_zero, List.push_toArray, List.append_toArray, List.nil_append, List.cons_append]
    gi_wp2_with fail
    refine ⟨trivial, (callsIn_wide.2 (HL.out _ ((Below.refl _ _).alloc (Nat.le_refl _) _))).mono ?_⟩
    rintro e w' ⟨rfl, rfl⟩
    gi_wp2_with fail
    refine ⟨trivial, (callsIn_wide.2 (pieces_any _ _ _ _)).mono ?_⟩
    rintro e w' ⟨rfl, rfl⟩
    gi_wp2_with fail
    rw [show w.heap.size + 1 + 2 = w.heap.size + 3 from rfl, show w.heap.size + 1 + 1 = w.heap.size + 2 from rfl]
    obtain ⟨W0, hW0⟩ : ∃ W0, W0 = ((((w.alloc (.cells #[.slice none 0 0] 22)).alloc (.cells #[.pointer (some ⟨g, 0, none⟩)] 24)).alloc (.cells #[.int .i64 fr] 3)).alloc (.cells #[.int .i64 k] 3)) := ⟨_, rfl⟩
    have hsz : W0.heap.size = w.heap.size + 4 := by rw [hW0]; simp
    have hb0 : Below w.heap.size w W0 := by rw [hW0]; exact ((((Below.refl _ w).alloc (Nat.le_refl _) _).alloc (by simp) _).alloc (by simp; omega) _).alloc (by simp; omega) _
    have hq0 : Boxed W0 w.heap.size 22 (.slice none 0 0) ∧ Boxed W0 (w.heap.size + 1) 24 (.pointer (some ⟨g, 0, none⟩)) ∧ Boxed W0 (w.heap.size + 2) 3 (.int .i64 fr) ∧ Boxed W0 (w.heap.size + 3) 3 (.int .i64 k) := by
      have q1 := Boxed.new w 22 (.slice none 0 0)
      have q2 := Boxed.new (w.alloc (.cells #[.slice none 0 0] 22)) 24 (.pointer (some ⟨g, 0, none⟩))
      have q3 := Boxed.new ((w.alloc (.cells #[.slice none 0 0] 22)).alloc (.cells #[.pointer (some ⟨g, 0, none⟩)] 24)) 3 (.int .i64 fr)
      have q4 := Boxed.new (((w.alloc (.cells #[.slice none 0 0] 22)).alloc (.cells #[.pointer (some ⟨g, 0, none⟩)] 24)).alloc (.cells #[.int .i64 fr] 3)) 3 (.int .i64 k)
      simp only [World.size_alloc] at q2 q3 q4
      rw [hW0]
      exact ⟨((q1.alloc _).alloc _).alloc _, (q2.alloc _).alloc _, q3.alloc _, q4⟩
    obtain ⟨b0, b1, b2, b3⟩ := hq0
    have rk0 : Rk W0 g gb C fr _ ip op := (hb0.block _ hgl).trans RK.out
    have by0 : By W0 gb cs := (hb0.block _ hgbl).trans HB.out
    rw [← hW0]
    clear hW0
    refine wpIn_range_st' (encP gb C) (fun r => r = w.heap.size + 3 ∨ r = w.heap.size + 2) (KR (w.heap.size + 3) (w.heap.size + 2) (w.heap.size + 1) g) (pcsL C fr k) (fun pre W => LkI w g gb C fr _ fr ip op cs pre W)
      (gf := 27) (lb := #[.pointer (some ⟨w.heap.size + 3, 0, none⟩), .pointer (some ⟨w.heap.size + 2, 0, none⟩), .pointer (some ⟨w.heap.size + 1, 0, none⟩)]) rfl h1 rfl trivial (enters_of Try.func27 (by kernel_rfl) rfl)
      (fun r hr => by omega) (pieces_seq (n - 1) (by omega) (w.heap.size + 3) (w.heap.size + 2) (w.heap.size + 1) g gb C fr _ fr k ip op (by omega) hC (by omega) (by omega) W0 b3 b2 b1 rk0) KR.t
      (fun W l o o' hl ho hc => ⟨World.putObj_heap_other (by omega), World.putObj_heap_other (by omega), World.putObj_heap_other (by omega), World.putObj_heap_other (by omega)⟩) (fun _ => rfl)
      (fun s A B row hs hg hr => hs.own hgl hgbl hg (by omega) hr)
      ⟨⟨_, b0, World.ownsRow_nil _ _ _ _⟩, rk0, by0, hb0, by omega⟩ ⟨?_, ?assign, ?body, ?done⟩
    case assign =>
      intro l x W K hK
      simp only [encP]
      gi_wp2_with fail
      exact hK
    case body =>
      intro l pre x W T1 hpx
      obtain ⟨p1, p2, p3, p4⟩ := pcsL_pre C pre fr k x (by omega) hpx
      have hst : (rd cs fr (sm pre + x.2)).map (Value.int .u8) = (rd cs fr (sm pre)).map (Value.int .u8) ++ ((cs.drop x.1).take x.2).map (Value.int .u8) := by
        rw [rd_step cs fr (sm pre) x.2 (by rw [hcs, ← p2]; omega) (by omega), List.map_append, hcs, ← p2]
      have hnl : (((cs.drop x.1).take x.2).map (Value.int .u8)).length = x.2 * 1 := by simp; omega
      have hcl := by_cell T1.bx x.1 x.2
      have HO := Lib.hid (show ∀ u ∈ ((cs.drop x.1).take x.2).map (Value.int .u8), u.oneCell' = true from fun u hu => by obtain ⟨y, _, rfl⟩ := List.mem_map.1 hu; rfl)
      have HS := Lib.hid hst
      have HN := Lib.hid hnl
      have HC := Lib.hid hcl
      clear hst hnl hcl hpx p2
      obtain ⟨v, hv9, hrow⟩ := T1.out
      have c9 := hv9.cell
      generalize (List.take x.2 (List.drop x.1 cs)).map (Value.int .u8) = news at *
      have hx2 : sm pre + x.2 ≤ 65536 := by omega
      clear p4
      gi_wp2_with (gi_at_builtin; refine wpListIn_append_own _ rfl _ _ 22 rfl (w.heap.size + 4) 5 i5 (.int .u8 0) 1 1 Try.underlying22 I9.out Z9.out S9.out Y9.out rfl (by decide) _ _ _ rfl hrow ⟨gb, x.1, none⟩ x.2 (C - x.1) news rfl HN.out HC.out HO.out (by unfold maxLen; omega) (by omega) (by have := T1.sz; omega) ?_; intro v' w5 hown' hgrow _; obtain ⟨A', c', rfl, _⟩ := row_form hown'; obtain ⟨hv1, T6, K6, B6⟩ := LkI.app T1 hgl hgbl hv9 hrow hown' hgrow HS.out; have hc1 := hv1.cell; have hf1 := hv1.frozen; clear hown' hgrow)
      exact ⟨K6.from _, B6, T6⟩
    case done =>
      intro D W hD T1 hK
      obtain ⟨v, hv, hrow⟩ := T1.out
      have c9 := hv.cell
      rw [pcsL_sum C fr k (by omega)] at hrow
      obtain ⟨A', c', rfl, _⟩ := row_form hrow
      gi_wp2_with fail
      refine ⟨by simp, .inl ⟨_, _, rfl, run_takeDeferred hK, ?_⟩⟩
      refine ⟨_, results_tmp rfl _ _ _, ⟨_, rfl, hrow.kept (grownBy_putObj' _ D _) (not_cells_row hrow ⟨_, hK, rfl⟩)⟩, ?_⟩
      exact (T1.bel).trans (belowK_b (w := w) (Nat.le_refl _) _ D _ _ (by omega) hK rfl rfl)
end Go.Proofs.Ytebnfcpikhehkaa
