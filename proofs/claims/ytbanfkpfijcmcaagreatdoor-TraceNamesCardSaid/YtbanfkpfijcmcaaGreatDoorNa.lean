/- Clones of entries; Of. -/
import Derived.Test.YtbanfkpfijcmcaaGreatDoorD
namespace Go.Proofs.YtbanfkpfijcmcaaGreatDoor
open Go.RowKit
set_option linter.unusedSimpArgs false
set_option linter.unusedVariables false
set_option maxRecDepth 100000
theorem info28 : (Tryz.prog.info? 28).map (fun i => (i.zero, i.size, i.bytes)) = some (some (.agg #[.int .i64 0, .int .u64 0, .int .i64 0, .int .i64 0, .int .i64 0, .int .i64 0, .slice none 0 0]), 7, 72) := info29
theorem eql_nil (w : World) : (binOp .eql 26 (.slice none 0 0) (.slice none 0 0)).run Tryz.prog w = .ok (.bool true) w := by kernel_rfl
theorem eql_some (ad : Addr) (n c : Nat) (w : World) : (binOp .eql 26 (.slice (some ad) n c) (.slice none 0 0)).run Tryz.prog w = .ok (.bool false) w := by kernel_rfl
set_option maxHeartbeats 1000000 in
theorem clone_any (w : World) (v : Value) (d : List UInt8) (h : DataAt w v d) (hl : d.length ≤ 10000000) :
    Calls Tryz.prog 39 #[v] w fun e w' => (∃ v', e = .returned v' ∧ w'.ownsRow w.heap.size 5 1 v' d.length (byt d)) ∧ Below w.heap.size w w' := by
  obtain ⟨i5, hi, hz, hs, hy⟩ := info_parts info5
  have I5 := Lib.hid hi; have Z5 := Lib.hid hz; have S5 := Lib.hid hs; have Y5 := Lib.hid hy
  clear hi hz hs hy
  obtain ⟨A, c, e, -⟩ := id h
  subst e
  obtain ⟨-, hn, hsrc⟩ := h.src
  have HL := Lib.hid (byt_len d); have HO := Lib.hid (byt_one d)
  cases A with
  | none =>
    obtain ⟨h0, rfl⟩ := hn rfl
    obtain rfl : d = [] := List.eq_nil_of_length_eq_zero h0
    clear h hn hsrc HL HO
    have qn := eql_nil
    go_enter Tryz.func39, Tryz.ntmps39
    go_wp2_with fail
    go_ret
    exact ⟨⟨_, rfl, World.ownsRow_nil _ _ _ _⟩, Below.refl _ _⟩
  | some ad =>
    have HS := Lib.hid (fun W hW => hsrc W hW ad rfl)
    have E0 : Hid ((w.alloc (.cells #[] 5)).ownsRow w.heap.size 5 1 (.slice (some ⟨w.heap.size, 0, none⟩) 0 0) 0 []) := Lib.hid ⟨rfl, .inr ⟨_, 0, _, rfl, Nat.le_refl _, new_block _ _, Nat.le_refl _, by unfold maxLen; omega, rfl, rfl⟩⟩
    have B0 : Hid (Below w.heap.size w (w.alloc (.cells #[] 5))) := Lib.hid ((Below.refl _ w).alloc (Nat.le_refl _) _)
    clear h hn hsrc
    generalize hM : d.length = n at *
    have qn := eql_some ad n c
    go_enter Tryz.func39, Tryz.ntmps39
    go_wp2_with (at_builtin; refine wpList_append_own _ rfl _ _ 26 rfl w.heap.size 5 i5 (.int .u8 0) 1 1 Tryz.underlying26 I5.out Z5.out S5.out Y5.out rfl (by decide) _ 0 [] rfl E0.out ad n c (byt d) rfl (by rw [HL.out, Nat.mul_one]) (HS.out _ B0.out) HO.out (by unfold maxLen; omega) (by omega) (by simp) ?_; intro v' w5 hown' hgrow _; have hb5 := Lib.hid (B0.out.grown hgrow (by simp) (fun k e => by cases e; exact Nat.le_refl _)); have H5 := Lib.hid hown'; obtain ⟨A', c', rfl, -⟩ := row_form hown'; clear hgrow hown')
    go_ret
    exact ⟨⟨_, rfl, by simpa using H5.out⟩, hb5.out⟩

/-- An entry's value. -/
def agE (x : En) (dv : Value) : Value := .agg #[.int .i64 x.kd, .int .u64 x.tk, .int .i64 x.id, .int .i64 x.fl, .int .i64 x.nn, .int .i64 x.er, dv]
theorem tset_block {w : World} {b : Nat} {cs : Array Value} {T : TypeId} {fr : Nat × Nat} (h : w.heap[b]? = some (.cells cs T fr)) (j : Nat) (v : Value) : (w.setCell ⟨b, j, none⟩ v).heap[b]? = some (.cells (cs.setIfInBounds j v) T fr) := by
  unfold World.setCell
  simp only [Array.getElem?_modify, if_pos, h, Option.map_some, Option.isSome_none, Bool.false_eq_true, if_false]
theorem set_other (w : World) {b c : Nat} (h : c ≠ b) (j : Nat) (v : Value) : (w.setCell ⟨b, j, none⟩ v).heap[c]? = w.heap[c]? := Below.heap_setCell _ _ _ _ h

set_option maxHeartbeats 2000000 in
theorem twin_any (w : World) (x : En) (Ad : Option Addr) (cd : Nat) (h : DataAt w (.slice Ad x.dt.length cd) x.dt) (hl : x.dt.length ≤ 10000000) :
    Calls Tryz.prog 21 #[agE x (.slice Ad x.dt.length cd)] w fun e w' => (∃ A' c', e = .returned (agE x (.slice A' x.dt.length c')) ∧ w'.ownsRow w.heap.size 5 1 (.slice A' x.dt.length c') x.dt.length (byt x.dt)) ∧ Below w.heap.size w w' := by
  unfold agE
  obtain ⟨w2, hw2⟩ : ∃ w2, w2 = ((w.alloc (.cells #[.int .i64 x.kd, .int .u64 x.tk, .int .i64 x.id, .int .i64 x.fl, .int .i64 x.nn, .int .i64 x.er, .slice Ad x.dt.length cd] 28)).alloc (.cells #[.int .i64 0, .int .u64 0, .int .i64 0, .int .i64 0, .int .i64 0, .int .i64 0, .slice none 0 0] 28)) := ⟨_, rfl⟩
  have B2 : Hid (Below w.heap.size w w2) := Lib.hid (by rw [hw2]; exact ((Below.refl _ w).alloc (Nat.le_refl _) _).alloc (by simp) _)
  have K1 : Hid (w2.heap[w.heap.size]? = some (.cells #[.int .i64 x.kd, .int .u64 x.tk, .int .i64 x.id, .int .i64 x.fl, .int .i64 x.nn, .int .i64 x.er, .slice Ad x.dt.length cd] 28 (0, 0))) := Lib.hid (by rw [hw2]; exact (Below.heap_alloc _ _ _ (by simp)).trans (new_block _ _))
  have K2 : Hid (w2.heap[w.heap.size + 1]? = some (.cells #[.int .i64 0, .int .u64 0, .int .i64 0, .int .i64 0, .int .i64 0, .int .i64 0, .slice none 0 0] 28 (0, 0))) := Lib.hid (by
    rw [hw2]
    have := new_block (w.alloc (.cells #[.int .i64 x.kd, .int .u64 x.tk, .int .i64 x.id, .int .i64 x.fl, .int .i64 x.nn, .int .i64 x.er, .slice Ad x.dt.length cd] 28)) (.cells #[.int .i64 0, .int .u64 0, .int .i64 0, .int .i64 0, .int .i64 0, .int .i64 0, .slice none 0 0] 28)
    rw [World.size_alloc] at this
    exact this)
  have hsz : w2.heap.size = w.heap.size + 2 := by rw [hw2]; simp
  have HC := Lib.hid (clone_any w2 (.slice Ad x.dt.length cd) x.dt (h.below B2.out) hl)
  clear h
  go_enter Tryz.func21, Tryz.ntmps21
  go_upto_region 1 with (fail)
  rw [← hw2]
  clear hw2
  generalize hb1 : w.heap.size = b1 at *
  have HB1 := Lib.hid hb1
  clear hb1
  have x6 := (cell_of K1.out 6).1
  simp at x6
  generalize hn : x.dt.length = n at *
  have HN := Lib.hid hn
  clear hn
  go_wp2_with fail
  refine HC.out.mono ?_
  rintro e w3 ⟨⟨v', rfl, r3⟩, b3⟩
  obtain ⟨A', c', rfl, -⟩ := row_form r3
  have R3 := Lib.hid r3; have B3 := Lib.hid b3
  have k1 := (b3.block b1 (by omega)).trans K1.out
  have k2 := (b3.block (b1 + 1) (by omega)).trans K2.out
  have y6 := cell_of k1 6
  obtain ⟨y6, z6⟩ := y6
  simp at y6
  have K3 := Lib.hid k1; have K4 := Lib.hid k2
  clear r3 b3 k1 k2 x6
  go_upto_region 2 with (fail)
  have K5 : Hid ((w3.setCell ⟨b1, 6, none⟩ (.slice A' n c')).heap[b1]? = some (.cells #[.int .i64 x.kd, .int .u64 x.tk, .int .i64 x.id, .int .i64 x.fl, .int .i64 x.nn, .int .i64 x.er, .slice A' n c'] 28 (0, 0))) := Lib.hid (tset_block K3.out 6 _)
  have K6 : Hid ((w3.setCell ⟨b1, 6, none⟩ (.slice A' n c')).heap[b1 + 1]? = some (.cells #[.int .i64 0, .int .u64 0, .int .i64 0, .int .i64 0, .int .i64 0, .int .i64 0, .slice none 0 0] 28 (0, 0))) := Lib.hid ((set_other _ (by omega) _ _).trans K4.out)
  have B6 : Hid (Below b1 w (w3.setCell ⟨b1, 6, none⟩ (.slice A' n c'))) := Lib.hid ((B2.out.trans (B3.out.mono (by omega))).setCell (p := ⟨b1, 6, none⟩) (Nat.le_refl _) _)
  have R6 : Hid ((w3.setCell ⟨b1, 6, none⟩ (.slice A' n c')).ownsRow w2.heap.size 5 1 (.slice A' n c') n (byt x.dt)) := Lib.hid (row_same R3.out (fun b e => set_other _ (by have := (R3.out.lt b e).1; omega) _ _))
  generalize w3.setCell ⟨b1, 6, none⟩ (.slice A' n c') = w4 at *
  have ha := cell_of K5.out; have hb := cell_of K6.out
  have a0 := (ha 0).1; have a1 := (ha 1).1; have a2 := (ha 2).1; have a3 := (ha 3).1; have a4 := (ha 4).1; have a5 := (ha 5).1; have a6 := (ha 6).1
  have d0 := (hb 0).1; have d1 := (hb 1).1; have d2 := (hb 2).1; have d3 := (hb 3).1; have d4 := (hb 4).1; have d5 := (hb 5).1; have d6 := (hb 6).1
  have f0 := (hb 0).2; have f1 := (hb 1).2; have f2 := (hb 2).2; have f3 := (hb 3).2; have f4 := (hb 4).2; have f5 := (hb 5).2; have f6 := (hb 6).2
  simp at a0 a1 a2 a3 a4 a5 a6 d0 d1 d2 d3 d4 d5 d6
  clear ha hb y6 z6
  go_wp2_with fail
  have g0 := tset_block K6.out 0 (.int .i64 x.kd)
  have g1 := tset_block g0 1 (.int .u64 x.tk)
  have g2 := tset_block g1 2 (.int .i64 x.id)
  have g3 := tset_block g2 3 (.int .i64 x.fl)
  have g4 := tset_block g3 4 (.int .i64 x.nn)
  have g5 := tset_block g4 5 (.int .i64 x.er)
  have g6 := tset_block g5 6 (.slice A' n c')
  clear g0 g1 g2 g3 g4 g5 a0 a1 a2 a3 a4 a5 a6 d0 d1 d2 d3 d4 d5 d6 f0 f1 f2 f3 f4 f5 f6
  have hB7 := ((((((B6.out.setCell (p := ⟨b1 + 1, 0, none⟩) (by simp) (.int .i64 x.kd)).setCell (p := ⟨b1 + 1, 1, none⟩) (by simp) (.int .u64 x.tk)).setCell (p := ⟨b1 + 1, 2, none⟩) (by simp) (.int .i64 x.id)).setCell (p := ⟨b1 + 1, 3, none⟩) (by simp) (.int .i64 x.fl)).setCell (p := ⟨b1 + 1, 4, none⟩) (by simp) (.int .i64 x.nn)).setCell (p := ⟨b1 + 1, 5, none⟩) (by simp) (.int .i64 x.er)).setCell (p := ⟨b1 + 1, 6, none⟩) (by simp) (.slice A' n c')
  have hR7 : ((((((((w4.setCell ⟨b1 + 1, 0, none⟩ (.int .i64 x.kd)).setCell ⟨b1 + 1, 1, none⟩ (.int .u64 x.tk)).setCell ⟨b1 + 1, 2, none⟩ (.int .i64 x.id)).setCell ⟨b1 + 1, 3, none⟩ (.int .i64 x.fl)).setCell ⟨b1 + 1, 4, none⟩ (.int .i64 x.nn)).setCell ⟨b1 + 1, 5, none⟩ (.int .i64 x.er)).setCell ⟨b1 + 1, 6, none⟩ (.slice A' n c'))).ownsRow w2.heap.size 5 1 (.slice A' n c') n (byt x.dt) := by
    refine row_same R6.out (fun b e => ?_)
    have hb := (R6.out.lt b e).1
    have hne : b ≠ b1 + 1 := by omega
    simp only [set_other _ hne]
  generalize ((((((((w4.setCell ⟨b1 + 1, 0, none⟩ (.int .i64 x.kd)).setCell ⟨b1 + 1, 1, none⟩ (.int .u64 x.tk)).setCell ⟨b1 + 1, 2, none⟩ (.int .i64 x.id)).setCell ⟨b1 + 1, 3, none⟩ (.int .i64 x.fl)).setCell ⟨b1 + 1, 4, none⟩ (.int .i64 x.nn)).setCell ⟨b1 + 1, 5, none⟩ (.int .i64 x.er)).setCell ⟨b1 + 1, 6, none⟩ (.slice A' n c'))) = w5 at *
  have g7 : w5.heap[b1 + 1]? = some (.cells #[.int .i64 x.kd, .int .u64 x.tk, .int .i64 x.id, .int .i64 x.fl, .int .i64 x.nn, .int .i64 x.er, .slice A' n c'] 28 (0, 0)) := g6
  have hc := cell_of g7
  have a0 := (hc 0).1; have a1 := (hc 1).1; have a2 := (hc 2).1; have a3 := (hc 3).1; have a4 := (hc 4).1; have a5 := (hc 5).1; have a6 := (hc 6).1
  simp at a0 a1 a2 a3 a4 a5 a6
  clear hc g6 g7
  refine bodyPost_ret (v := .agg #[.int .i64 x.kd, .int .u64 x.tk, .int .i64 x.id, .int .i64 x.fl, .int .i64 x.nn, .int .i64 x.er, .slice A' n c']) (by simp [results, Tryz.results21, go_sem, a0, a1, a2, a3, a4, a5, a6]) rfl ⟨⟨A', c', by rw [HN.out], ?_⟩, by rw [HB1.out]; exact hB7⟩
  rw [HN.out, HB1.out]
  refine ⟨hR7.1, ?_⟩
  rcases hR7.2 with h0 | ⟨g, cap, cur, e1, e2, e3⟩
  · exact .inl h0
  · exact .inr ⟨g, cap, cur, e1, by omega, e3⟩

/-- A list in the making: its row, and the bytes of its entries. -/
structure TXs (w W : World) (out : Value) (X : List Ex) : Prop where
  o : W.ownsRow w.heap.size 28 7 out X.length (flatX X)
  d : ∀ x ∈ X, DataAt w x.dv x.e.dt ∨ W.ownsRow w.heap.size 5 1 x.dv x.e.dt.length (byt x.e.dt)
  b : Below w.heap.size w W
theorem TXs.nil (w : World) : TXs w w (.slice none 0 0) [] := ⟨World.ownsRow_nil _ _ _ _, fun x h => absurd h (List.not_mem_nil), Below.refl _ _⟩
theorem TXs.below {w W W' : World} {out : Value} {X : List Ex} (h : TXs w W out X) (hb : Below W.heap.size W W') : TXs w W' out X :=
  ⟨row_keep h.o hb, fun x hx => (h.d x hx).imp_right (fun h => row_keep h hb), h.b.trans (hb.mono h.b.size)⟩
theorem rows_apart {w : World} {b1 b2 : Nat} {e1 e2 : TypeId} {s1 s2 : Nat} {v1 v2 : Value} {n1 n2 : Nat} {x1 x2 : List Value} (he : e1 ≠ e2) (h1 : w.ownsRow b1 e1 s1 v1 n1 x1) (h2 : w.ownsRow b2 e2 s2 v2 n2 x2) : ∀ b, v1.ownBlock = some b → v2.ownBlock ≠ some b := by
  intro b hb1 hb2
  rcases h1.2 with ⟨rfl, _⟩ | ⟨g, cap, cur, rfl, _, hg, _⟩
  · cases hb1
  · obtain rfl : g = b := by simpa [Value.ownBlock] using hb1
    rcases h2.2 with ⟨rfl, _⟩ | ⟨g2, cap2, cur2, rfl, _, hg2, _⟩
    · cases hb2
    · obtain rfl : g2 = g := by simpa [Value.ownBlock] using hb2
      rw [hg] at hg2
      cases hg2
      exact he rfl
theorem TXs.push {w W W' : World} {out out' : Value} {X : List Ex} {x : Ex} (h : TXs w W out X) (hx : DataAt w x.dv x.e.dt ∨ W.ownsRow w.heap.size 5 1 x.dv x.e.dt.length (byt x.e.dt)) (hg : W.grownBy W' out.ownBlock) (hown : W'.ownsRow w.heap.size 28 7 out' (X.length + 1) (flatX X ++ encX x)) : TXs w W' out' (X ++ [x]) := by
  have keep : ∀ y : Ex, (DataAt w y.dv y.e.dt ∨ W.ownsRow w.heap.size 5 1 y.dv y.e.dt.length (byt y.e.dt)) → (DataAt w y.dv y.e.dt ∨ W'.ownsRow w.heap.size 5 1 y.dv y.e.dt.length (byt y.e.dt)) := fun y hy => hy.imp_right (fun h5 => row_same h5 (fun b e => hg.block b (h5.lt b e).2 (fun e2 => rows_apart (by decide) h5 h.o b e e2.symm)))
  refine ⟨?_, fun y hy => ?_, h.b.grown hg h.b.size (fun k e => (h.o.lt k e).1)⟩
  · rw [List.length_append, flatX_append]
    simpa [flatX] using hown
  · rcases List.mem_append.1 hy with hy | hy
    · exact keep y (h.d y hy)
    · rw [List.mem_singleton.1 hy]; exact keep x hx
theorem TXs.rd {w W : World} {out : Value} {X : List Ex} (h : TXs w W out X) : Rd W out (ents X) :=
  Rd.of (ents_own h.o (fun x hx => by
    rcases h.d x hx with h1 | h1
    · have := h1
      obtain ⟨A, c, e, h2, h3, hn, h4⟩ := h1
      refine ⟨A, c, e, h2, h3, hn, fun h0 => ?_⟩
      obtain ⟨b, off, hA, hlt, hc⟩ := h4 h0
      exact ⟨b, off, hA, Nat.lt_of_lt_of_le hlt h.b.size, fun j u hj => (h.b.cell (p := ⟨b, off + j, none⟩) hlt).trans (hc j u hj)⟩
    · exact data_own h1))
theorem tencX_one (x : Ex) (A : Option Addr) (n c : Nat) (h : x.dv = .slice A n c) : ∀ u ∈ encX x, u.oneCell' = true := by
  intro u hu
  simp [encX] at hu
  rcases hu with rfl | rfl | rfl | rfl | rfl | rfl | rfl
  · rfl
  · rfl
  · rfl
  · rfl
  · rfl
  · rfl
  · rw [h]; rfl

set_option maxHeartbeats 1000000 in
theorem ofp_any (w : World) (x : En) (Ad : Option Addr) (n cd ib : Nat) (id : Int) (hi : w.cell? ⟨ib, 0, none⟩ = some (.int .i64 id)) :
    Calls Tryz.prog 23 #[agE x (.slice Ad n cd), .pointer (some ⟨ib, 0, none⟩)] w fun e w' => e = .returned (.bool (ofP id x)) ∧ Below w.heap.size w w' := by
  unfold agE ofP
  have hlt := (cell_lt hi).1
  simp only at hlt
  have c0 : (w.alloc (.cells #[.int .i64 x.kd, .int .u64 x.tk, .int .i64 x.id, .int .i64 x.fl, .int .i64 x.nn, .int .i64 x.er, .slice Ad n cd] 28)).cell? ⟨ib, 0, none⟩ = some (.int .i64 id) := (((Below.refl w.heap.size w).alloc (Nat.le_refl _) _).cell (p := ⟨ib, 0, none⟩) hlt).trans hi
  obtain ⟨a1, a2, a3, a4, a5, a6, ad⟩ := x
  simp only at c0 ⊢
  cases e1 : (a3 == id)
  case' true =>
    cases e2 : (a1 == 2)
    case' false =>
      cases e3 : (a1 == 3)
  all_goals
    go_enter Tryz.func23, Tryz.ntmps23
    go_wp2_with fail
    go_ret
    exact ⟨rfl, (Below.refl _ _).alloc (Nat.le_refl _) _⟩

set_option maxHeartbeats 1000000 in
theorem oft_any (w : World) (x : En) (Ad : Option Addr) (cd : Nat) (h : DataAt w (.slice Ad x.dt.length cd) x.dt) (hl : x.dt.length ≤ 10000000) :
    Calls Tryz.prog 24 #[agE x (.slice Ad x.dt.length cd)] w fun e w' => (∃ g A' c', e = .returned (.slice (some ⟨g, 0, none⟩) 1 1) ∧ w'.heap[g]? = some (.cells (encX ⟨x, .slice A' x.dt.length c'⟩).toArray 28 (0, 0)) ∧ w'.ownsRow w.heap.size 5 1 (.slice A' x.dt.length c') x.dt.length (byt x.dt)) ∧ Below w.heap.size w w' := by
  have B1 : Hid (Below w.heap.size w (w.alloc (.cells #[.int .i64 x.kd, .int .u64 x.tk, .int .i64 x.id, .int .i64 x.fl, .int .i64 x.nn, .int .i64 x.er, .slice Ad x.dt.length cd] 28))) := Lib.hid ((Below.refl _ w).alloc (Nat.le_refl _) _)
  have HT := Lib.hid (twin_any _ x Ad cd (h.below B1.out) hl)
  unfold agE at HT ⊢
  clear h
  go_enter Tryz.func24, Tryz.ntmps24
  go_wp2_with fail
  refine HT.out.mono ?_
  rintro e w2 ⟨⟨A', c', rfl, r2⟩, b2⟩
  have R2 := Lib.hid r2; have B2 := Lib.hid b2
  clear r2 b2
  go_wp2_with fail
  go_ret
  have hB2 : Below w.heap.size w w2 := B1.out.trans (B2.out.mono (by simp))
  refine ⟨⟨_, A', c', rfl, new_block _ _, ?_⟩, hB2.alloc hB2.size _⟩
  have h5 := row_keep R2.out ((Below.refl _ w2).alloc (Nat.le_refl _) (.cells (encX ⟨x, .slice A' x.dt.length c'⟩).toArray 28))
  refine ⟨h5.1, ?_⟩
  rcases h5.2 with h0 | ⟨g, cap, cur, e1, e2, e3⟩
  · exact .inl h0
  · exact .inr ⟨g, cap, cur, e1, by simp at e2; omega, e3⟩

set_option maxHeartbeats 4000000 in
theorem ofpick_any (w : World) (va : Value) (es : List En) (ib : Nat) (id : Int) (hi : w.cell? ⟨ib, 0, none⟩ = some (.int .i64 id)) (ha : Rd w va es) (hla : es.length ≤ 1000000) (hdl : ∀ x ∈ es, x.dt.length ≤ 10000000) :
    Calls Tryz.prog 22 #[va, .func (.func 23) #[] #[.pointer (some ⟨ib, 0, none⟩)], .func (.func 24) #[] #[]] w fun e w' => (∃ v', e = .returned v' ∧ Rd w' v' (ofF es id)) ∧ Below w.heap.size w w' := by
  obtain ⟨i28, hi0, hz0, hz1, hz2⟩ := info_parts info28
  have I28 := Lib.hid hi0; have Z28 := Lib.hid hz0; have S28 := Lib.hid hz1; have Y28 := Lib.hid hz2
  clear hi0 hz0 hz1 hz2
  have hlt := (cell_lt hi).1
  simp only at hlt
  obtain ⟨A, c, rfl, hac, hcm, hA⟩ := ha.one
  have HA := Lib.hid hA
  have HI : Hid (∀ W, Below w.heap.size w W → W.cell? ⟨ib, 0, none⟩ = some (.int .i64 id)) := Lib.hid (fun W h => (h.cell (p := ⟨ib, 0, none⟩) hlt).trans hi)
  have HDL := Lib.hid hdl
  have HT : Hid (es.take es.length = es) := Lib.hid (List.take_length ..)
  clear hA ha hi hdl
  unfold maxLen at hcm
  generalize hM : es.length = n at *
  clear hM
  go_enter Tryz.func22, Tryz.ntmps22
  go_wp2_with fail
  go_loopw [7, 12] (fun o i wr => ∃ (k : Nat) (X : List Ex), k ≤ n ∧ i = .int .i64 k ∧ Hid (ents X = ofF (es.take k) id) ∧ X.length ≤ k ∧ Hid (TXs w wr o X)) (fun _ i _ => n - (intOf i).toNat)
  case atStart => exact ⟨0, [], Nat.zero_le _, rfl, Lib.hid rfl, Nat.le_refl _, Lib.hid (TXs.nil w)⟩
  case round =>
    obtain ⟨w7, rfl⟩ : ∃ w7 : World, w7 = wr := ⟨_, rfl⟩
    obtain ⟨k, X, hk, rfl, HX, hxl, HP⟩ := hrel
    obtain ⟨A1, c1, rfl, -⟩ := row_form HP.out.o
    by_cases hkn : k < n
    · obtain ⟨x, Ad, cd, b, off, hx, rfl, hdx, hcx⟩ := HA.out k hkn
      obtain ⟨c0, c1', c2, c3, c4, c5, c6⟩ := hcx _ HP.out.b
      have hst : es.take (k + 1) = es.take k ++ [x] := by rw [List.take_add_one, hx]; rfl
      have HS := Lib.hid (ofF_snoc (es.take k) x id)
      rw [← hst] at HS
      have HL := Lib.hid (HDL.out x (List.mem_of_getElem? hx))
      have hkn' : (k : Int) < (n : Int) := by omega
      have B1 : Hid (Below w7.heap.size w7 (w7.alloc (.cells #[.int .i64 x.kd, .int .u64 x.tk, .int .i64 x.id, .int .i64 x.fl, .int .i64 x.nn, .int .i64 x.er, .slice Ad x.dt.length cd] 28))) := Lib.hid ((Below.refl _ _).alloc (Nat.le_refl _) _)
      have K1 : Hid (XBx (w7.alloc (.cells #[.int .i64 x.kd, .int .u64 x.tk, .int .i64 x.id, .int .i64 x.fl, .int .i64 x.nn, .int .i64 x.er, .slice Ad x.dt.length cd] 28)) w7.heap.size ⟨x, .slice Ad x.dt.length cd⟩) := Lib.hid (new_block _ _)
      have P1 := Lib.hid (HP.out.below B1.out)
      have DX := Lib.hid hdx
      clear hcx hx hst hdx HP
      go_upto_region 5 with (fail)
      generalize w7.alloc (.cells #[.int .i64 x.kd, .int .u64 x.tk, .int .i64 x.id, .int .i64 x.fl, .int .i64 x.nn, .int .i64 x.er, .slice Ad x.dt.length cd] 28) = w1 at *
      generalize w7.heap.size = bx at *
      clear c0 c1' c2 c3 c4 c5 c6
      obtain ⟨a0, a1, a2, a3, a4, a5, a6⟩ := K1.out.cells
      simp only at a0 a1 a2 a3 a4 a5 a6
      have HOP := Lib.hid (ofp_any w1 x Ad x.dt.length cd ib id (HI.out _ P1.out.b))
      unfold agE at HOP
      go_wp2_with fail
      refine HOP.out.mono ?_
      rintro e w2 ⟨rfl, b2⟩
      have P2 := Lib.hid (P1.out.below b2)
      have K2 := Lib.hid (K1.out.below b2)
      clear b2 a0 a1 a2 a3 a4 a5 a6 P1 K1 B1 HOP
      cases ho : ofP id x
      · rw [ho] at HS
        go_wp2_with fail
        go_roundw
        case rel => exact ⟨k + 1, X, by omega, by go_num, Lib.hid (by rw [HS.out, HX.out]; rfl), by omega, P2⟩
        case measure => simp [intOf]; omega
      · rw [ho] at HS
        obtain ⟨a0, a1, a2, a3, a4, a5, a6⟩ := K2.out.cells
        simp only at a0 a1 a2 a3 a4 a5 a6
        have HOT := Lib.hid (oft_any w2 x Ad cd (by
          obtain ⟨A', c', e, h2, h3, hn, h4⟩ := DX.out
          refine ⟨A', c', e, h2, h3, hn, fun h0 => ?_⟩
          obtain ⟨b, off, hA, hlt, hc⟩ := h4 h0
          exact ⟨b, off, hA, Nat.lt_of_lt_of_le hlt P2.out.b.size, fun j u hj => (P2.out.b.cell (p := ⟨b, off + j, none⟩) hlt).trans (hc j u hj)⟩) HL.out)
        unfold agE at HOT
        go_wp2_with fail
        refine HOT.out.mono ?_
        rintro e w3 ⟨⟨g, A', c', rfl, hg, r3⟩, b3⟩
        have P3 := Lib.hid (P2.out.below b3)
        have hz2 := P2.out.b.size
        have R3 : Hid (w3.ownsRow w.heap.size 5 1 (.slice A' x.dt.length c') x.dt.length (byt x.dt)) := Lib.hid (by
          refine ⟨r3.1, ?_⟩
          rcases r3.2 with h0 | ⟨g, cap, cur, e1, e2, e3⟩
          · exact .inl h0
          · exact .inr ⟨g, cap, cur, e1, by omega, e3⟩)
        have G3 := Lib.hid hg
        have hsz3 := P3.out.b.size
        have HENC : Hid ((encX ⟨x, .slice A' x.dt.length c'⟩).length = 1 * 7) := Lib.hid rfl
        have HEO := Lib.hid (tencX_one ⟨x, .slice A' x.dt.length c'⟩ A' x.dt.length c' rfl)
        clear hg r3 b3 a0 a1 a2 a3 a4 a5 a6 HOT P2 K2
        generalize hxn : X.length = xn at *
        have HXN := Lib.hid hxn
        clear hxn
        have HPO := P3.out.o
        rw [HXN.out] at HPO
        have HPO := Lib.hid HPO
        go_wp2_with (at_builtin; refine wpList_append_own _ rfl _ _ 29 rfl w.heap.size 28 i28 _ 7 72 Tryz.underlying29 I28.out Z28.out S28.out Y28.out rfl (by omega) _ xn (flatX X) rfl HPO.out ⟨g, 0, none⟩ 1 1 (encX ⟨x, .slice A' x.dt.length c'⟩) rfl HENC.out (fun j u hj => by rw [add_plain, Nat.zero_add, (cell_of G3.out j).1]; simpa using hj) HEO.out (by unfold maxLen; omega) (by omega) hsz3 ?_; intro v' w5 hown' hgrow _; have P5 : Hid (TXs w w5 v' (X ++ [⟨x, .slice A' x.dt.length c'⟩])) := Lib.hid (P3.out.push (.inr R3.out) hgrow (by rw [HXN.out]; exact hown')); clear hgrow hown')
        go_roundw
        case rel => exact ⟨k + 1, _, by omega, by go_num, Lib.hid (by rw [HS.out, ← HX.out]; simp [ents]), by simp [HXN.out]; omega, P5⟩
        case measure => simp [intOf]; omega
    · obtain rfl : k = n := by omega
      rw [HT.out] at HX
      have HR := HP.out.rd
      rw [HX.out] at HR
      have HR := Lib.hid HR
      go_wp2_with fail
      go_ret
      exact ⟨⟨_, rfl, HR.out⟩, HP.out.b⟩

theorem of_any (w : World) (va : Value) (es : List En) (id : Int) (ha : Rd w va es) (hla : es.length ≤ 1000000) (hdl : ∀ x ∈ es, x.dt.length ≤ 10000000) :
    Calls Tryz.prog 10 #[va, .int .i64 id] w fun e w' => (∃ v', e = .returned v' ∧ Rd w' v' (ofF es id)) ∧ Below w.heap.size w w' := by
  have B1 : Hid (Below w.heap.size w (w.alloc (.cells #[.int .i64 id] 3))) := Lib.hid ((Below.refl _ w).alloc (Nat.le_refl _) _)
  have HP := Lib.hid (ofpick_any (w.alloc (.cells #[.int .i64 id] 3)) va es w.heap.size id (cell_of (new_block w (.cells #[.int .i64 id] 3)) 0).1 (ha.below B1.out) hla hdl)
  clear ha hdl
  go_enter Tryz.func10, Tryz.ntmps10
  go_wp2_with fail
  refine HP.out.mono ?_
  rintro e w2 ⟨⟨v', rfl, r2⟩, b2⟩
  have R2 := Lib.hid r2; have B2 := Lib.hid b2
  clear r2 b2
  go_wp2_with fail
  go_ret
  exact ⟨⟨_, rfl, R2.out⟩, B1.out.trans (B2.out.mono (by simp))⟩
end Go.Proofs.YtbanfkpfijcmcaaGreatDoor
