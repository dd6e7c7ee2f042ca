/- Of. -/
import Derived.Test.YtbanfkpfijcmcaaE
namespace Go.Proofs.Ytbanfkpfijcmcaa
open Go.RowKit
set_option linter.unusedSimpArgs false
set_option linter.unusedVariables false
set_option maxRecDepth 100000

/-- A list in the making: its row, and the bytes of its entries. -/
structure PX (w W : World) (out : Value) (X : List Ex) : Prop where
  o : W.ownsRow w.heap.size 28 7 out X.length (flatX X)
  d : ∀ x ∈ X, DataAt w x.dv x.e.dt ∨ W.ownsRow w.heap.size 5 1 x.dv x.e.dt.length (byt x.e.dt)
  b : Below w.heap.size w W
theorem PX.nil (w : World) : PX w w (.slice none 0 0) [] := ⟨World.ownsRow_nil _ _ _ _, fun x h => absurd h (List.not_mem_nil), Below.refl _ _⟩
theorem PX.below {w W W' : World} {out : Value} {X : List Ex} (h : PX w W out X) (hb : Below W.heap.size W W') : PX w W' out X :=
  ⟨row_keep h.o hb, fun x hx => (h.d x hx).imp_right (fun h => row_keep h hb), h.b.trans (hb.mono h.b.size)⟩
theorem rows_apart {w : World} {b1 b2 : Nat} {e1 e2 : TypeId} {s1 s2 : Nat} {v1 v2 : Value} {n1 n2 : Nat} {x1 x2 : List Value} (he : e1 ≠ e2) (h1 : w.ownsRow b1 e1 s1 v1 n1 x1) (h2 : w.ownsRow b2 e2 s2 v2 n2 x2) : ∀ b, v1.ownBlock = some b → v2.ownBlock ≠ some b := by
  intro b hb1 hb2
  rcases h1.2 with ⟨rfl, _⟩ | ⟨g, cap, cur, rfl, _, hg, _⟩
  · cases hb1
  · obtain rfl : g = b := by simpa [Value.ownBlock] using hb1
    rcases h2.2 with ⟨rfl, _⟩ | ⟨g2, cap2, cur2, rfl, _, hg2, _⟩
    · cases hb2
    · obtain rfl : g2 = g := by simpa [Value.ownBlock] using hb2
      rw [hg] at hg2
      cases hg2
      exact he rfl
theorem PX.push {w W W' : World} {out out' : Value} {X : List Ex} {x : Ex} (h : PX w W out X) (hx : DataAt w x.dv x.e.dt ∨ W.ownsRow w.heap.size 5 1 x.dv x.e.dt.length (byt x.e.dt)) (hg : W.grownBy W' out.ownBlock) (hown : W'.ownsRow w.heap.size 28 7 out' (X.length + 1) (flatX X ++ encX x)) : PX w W' out' (X ++ [x]) := by
  have keep : ∀ y : Ex, (DataAt w y.dv y.e.dt ∨ W.ownsRow w.heap.size 5 1 y.dv y.e.dt.length (byt y.e.dt)) → (DataAt w y.dv y.e.dt ∨ W'.ownsRow w.heap.size 5 1 y.dv y.e.dt.length (byt y.e.dt)) := fun y hy => hy.imp_right (fun h5 => row_same h5 (fun b e => hg.block b (h5.lt b e).2 (fun e2 => rows_apart (by decide) h5 h.o b e e2.symm)))
  refine ⟨?_, fun y hy => ?_, h.b.grown hg h.b.size (fun k e => (h.o.lt k e).1)⟩
  · rw [List.length_append, flatX_append]
    simpa [flatX] using hown
  · rcases List.mem_append.1 hy with hy | hy
    · exact keep y (h.d y hy)
    · rw [List.mem_singleton.1 hy]; exact keep x hx
theorem PX.rd {w W : World} {out : Value} {X : List Ex} (h : PX w W out X) : Rd W out (ents X) :=
  Rd.of (ents_own h.o (fun x hx => by
    rcases h.d x hx with h1 | h1
    · have := h1
      obtain ⟨A, c, e, h2, h3, hn, h4⟩ := h1
      refine ⟨A, c, e, h2, h3, hn, fun h0 => ?_⟩
      obtain ⟨b, off, hA, hlt, hc⟩ := h4 h0
      exact ⟨b, off, hA, Nat.lt_of_lt_of_le hlt h.b.size, fun j u hj => (h.b.cell (p := ⟨b, off + j, none⟩) hlt).trans (hc j u hj)⟩
    · exact data_own h1))
theorem encX_one (x : Ex) (A : Option Addr) (n c : Nat) (h : x.dv = .slice A n c) : ∀ u ∈ encX x, u.oneCell' = true := by
  intro u hu
  simp [encX] at hu
  rcases hu with rfl | rfl | rfl | rfl | rfl | rfl | rfl
  · rfl
  · rfl
  · rfl
  · rfl
  · rfl
  · rfl
  · rw [h]; rfl

set_option maxHeartbeats 1000000 in
theorem ofp_any (w : World) (x : En) (Ad : Option Addr) (n cd ib : Nat) (id : Int) (hi : w.cell? ⟨ib, 0, none⟩ = some (.int .i64 id)) :
    Calls Try.prog 17 #[agE x (.slice Ad n cd), .pointer (some ⟨ib, 0, none⟩)] w fun e w' => e = .returned (.bool (ofP id x)) ∧ Below w.heap.size w w' := by
  unfold agE ofP
  have hlt := (cell_lt hi).1
  simp only at hlt
  have c0 : (w.alloc (.cells #[.int .i64 x.kd, .int .u64 x.tk, .int .i64 x.id, .int .i64 x.fl, .int .i64 x.nn, .int .i64 x.er, .slice Ad n cd] 28)).cell? ⟨ib, 0, none⟩ = some (.int .i64 id) := (((Below.refl w.heap.size w).alloc (Nat.le_refl _) _).cell (p := ⟨ib, 0, none⟩) hlt).trans hi
  obtain ⟨a1, a2, a3, a4, a5, a6, ad⟩ := x
  simp only at c0 ⊢
  cases e1 : (a3 == id)
  case' true =>
    cases e2 : (a1 == 2)
    case' false =>
      cases e3 : (a1 == 3)
  all_goals
    go_enter Try.func17, Try.ntmps17
    go_wp2_with fail
    go_ret
    exact ⟨rfl, (Below.refl _ _).alloc (Nat.le_refl _) _⟩

set_option maxHeartbeats 1000000 in
theorem oft_any (w : World) (x : En) (Ad : Option Addr) (cd : Nat) (h : DataAt w (.slice Ad x.dt.length cd) x.dt) (hl : x.dt.length ≤ 10000000) :
    Calls Try.prog 18 #[agE x (.slice Ad x.dt.length cd)] w fun e w' => (∃ g A' c', e = .returned (.slice (some ⟨g, 0, none⟩) 1 1) ∧ w'.heap[g]? = some (.cells (encX ⟨x, .slice A' x.dt.length c'⟩).toArray 28 (0, 0)) ∧ w'.ownsRow w.heap.size 5 1 (.slice A' x.dt.length c') x.dt.length (byt x.dt)) ∧ Below w.heap.size w w' := by
  have B1 : Hid (Below w.heap.size w (w.alloc (.cells #[.int .i64 x.kd, .int .u64 x.tk, .int .i64 x.id, .int .i64 x.fl, .int .i64 x.nn, .int .i64 x.er, .slice Ad x.dt.length cd] 28))) := Lib.hid ((Below.refl _ w).alloc (Nat.le_refl _) _)
  have HT := Lib.hid (twin_any _ x Ad cd (h.below B1.out) hl)
  unfold agE at HT ⊢
  clear h
  go_enter Try.func18, Try.ntmps18
  go_wp2_with fail
  refine HT.out.mono ?_
  rintro e w2 ⟨⟨A', c', rfl, r2⟩, b2⟩
  have R2 := Lib.hid r2; have B2 := Lib.hid b2
  clear r2 b2
  go_wp2_with fail
  go_ret
  have hB2 : Below w.heap.size w w2 := B1.out.trans (B2.out.mono (by simp))
  refine ⟨⟨_, A', c', rfl, new_block _ _, ?_⟩, hB2.alloc hB2.size _⟩
  have h5 := row_keep R2.out ((Below.refl _ w2).alloc (Nat.le_refl _) (.cells (encX ⟨x, .slice A' x.dt.length c'⟩).toArray 28))
  refine ⟨h5.1, ?_⟩
  rcases h5.2 with h0 | ⟨g, cap, cur, e1, e2, e3⟩
  · exact .inl h0
  · exact .inr ⟨g, cap, cur, e1, by simp at e2; omega, e3⟩

set_option maxHeartbeats 4000000 in
theorem ofpick_any (w : World) (va : Value) (es : List En) (ib : Nat) (id : Int) (hi : w.cell? ⟨ib, 0, none⟩ = some (.int .i64 id)) (ha : Rd w va es) (hla : es.length ≤ 1000000) (hdl : ∀ x ∈ es, x.dt.length ≤ 10000000) :
    Calls Try.prog 16 #[va, .func (.func 17) #[] #[.pointer (some ⟨ib, 0, none⟩)], .func (.func 18) #[] #[]] w fun e w' => (∃ v', e = .returned v' ∧ Rd w' v' (ofF es id)) ∧ Below w.heap.size w w' := by
  obtain ⟨i28, hi0, hz0, hz1, hz2⟩ := info_parts info28
  have I28 := Lib.hid hi0; have Z28 := Lib.hid hz0; have S28 := Lib.hid hz1; have Y28 := Lib.hid hz2
  clear hi0 hz0 hz1 hz2
  have hlt := (cell_lt hi).1
  simp only at hlt
  obtain ⟨A, c, rfl, hac, hcm, hA⟩ := ha.one
  have HA := Lib.hid hA
  have HI : Hid (∀ W, Below w.heap.size w W → W.cell? ⟨ib, 0, none⟩ = some (.int .i64 id)) := Lib.hid (fun W h => (h.cell (p := ⟨ib, 0, none⟩) hlt).trans hi)
  have HDL := Lib.hid hdl
  have HT : Hid (es.take es.length = es) := Lib.hid (List.take_length ..)
  clear hA ha hi hdl
  unfold maxLen at hcm
  generalize hM : es.length = n at *
  clear hM
  go_enter Try.func16, Try.ntmps16
  go_wp2_with fail
  go_loopw [7, 12] (fun o i wr => ∃ (k : Nat) (X : List Ex), k ≤ n ∧ i = .int .i64 k ∧ Hid (ents X = ofF (es.take k) id) ∧ X.length ≤ k ∧ Hid (PX w wr o X)) (fun _ i _ => n - (intOf i).toNat)
  case atStart => exact ⟨0, [], Nat.zero_le _, rfl, Lib.hid rfl, Nat.le_refl _, Lib.hid (PX.nil w)⟩
  case round =>
    obtain ⟨w7, rfl⟩ : ∃ w7 : World, w7 = wr := ⟨_, rfl⟩
    obtain ⟨k, X, hk, rfl, HX, hxl, HP⟩ := hrel
    obtain ⟨A1, c1, rfl, -⟩ := row_form HP.out.o
    by_cases hkn : k < n
    · obtain ⟨x, Ad, cd, b, off, hx, rfl, hdx, hcx⟩ := HA.out k hkn
      obtain ⟨c0, c1', c2, c3, c4, c5, c6⟩ := hcx _ HP.out.b
      have hst : es.take (k + 1) = es.take k ++ [x] := by rw [List.take_add_one, hx]; rfl
      have HS := Lib.hid (ofF_snoc (es.take k) x id)
      rw [← hst] at HS
      have HL := Lib.hid (HDL.out x (List.mem_of_getElem? hx))
      have hkn' : (k : Int) < (n : Int) := by omega
      have B1 : Hid (Below w7.heap.size w7 (w7.alloc (.cells #[.int .i64 x.kd, .int .u64 x.tk, .int .i64 x.id, .int .i64 x.fl, .int .i64 x.nn, .int .i64 x.er, .slice Ad x.dt.length cd] 28))) := Lib.hid ((Below.refl _ _).alloc (Nat.le_refl _) _)
      have K1 : Hid (XBx (w7.alloc (.cells #[.int .i64 x.kd, .int .u64 x.tk, .int .i64 x.id, .int .i64 x.fl, .int .i64 x.nn, .int .i64 x.er, .slice Ad x.dt.length cd] 28)) w7.heap.size ⟨x, .slice Ad x.dt.length cd⟩) := Lib.hid (new_block _ _)
      have P1 := Lib.hid (HP.out.below B1.out)
      have DX := Lib.hid hdx
      clear hcx hx hst hdx HP
      go_upto_region 5 with (fail)
      generalize w7.alloc (.cells #[.int .i64 x.kd, .int .u64 x.tk, .int .i64 x.id, .int .i64 x.fl, .int .i64 x.nn, .int .i64 x.er, .slice Ad x.dt.length cd] 28) = w1 at *
      generalize w7.heap.size = bx at *
      clear c0 c1' c2 c3 c4 c5 c6
      obtain ⟨a0, a1, a2, a3, a4, a5, a6⟩ := K1.out.cells
      simp only at a0 a1 a2 a3 a4 a5 a6
      have HOP := Lib.hid (ofp_any w1 x Ad x.dt.length cd ib id (HI.out _ P1.out.b))
      unfold agE at HOP
      go_wp2_with fail
      refine HOP.out.mono ?_
      rintro e w2 ⟨rfl, b2⟩
      have P2 := Lib.hid (P1.out.below b2)
      have K2 := Lib.hid (K1.out.below b2)
      clear b2 a0 a1 a2 a3 a4 a5 a6 P1 K1 B1 HOP
      cases ho : ofP id x
      · rw [ho] at HS
        go_wp2_with fail
        go_roundw
        case rel => exact ⟨k + 1, X, by omega, by go_num, Lib.hid (by rw [HS.out, HX.out]; rfl), by omega, P2⟩
        case measure => simp [intOf]; omega
      · rw [ho] at HS
        obtain ⟨a0, a1, a2, a3, a4, a5, a6⟩ := K2.out.cells
        simp only at a0 a1 a2 a3 a4 a5 a6
        have HOT := Lib.hid (oft_any w2 x Ad cd (by
          obtain ⟨A', c', e, h2, h3, hn, h4⟩ := DX.out
          refine ⟨A', c', e, h2, h3, hn, fun h0 => ?_⟩
          obtain ⟨b, off, hA, hlt, hc⟩ := h4 h0
          exact ⟨b, off, hA, Nat.lt_of_lt_of_le hlt P2.out.b.size, fun j u hj => (P2.out.b.cell (p := ⟨b, off + j, none⟩) hlt).trans (hc j u hj)⟩) HL.out)
        unfold agE at HOT
        go_wp2_with fail
        refine HOT.out.mono ?_
        rintro e w3 ⟨⟨g, A', c', rfl, hg, r3⟩, b3⟩
        have P3 := Lib.hid (P2.out.below b3)
        have hz2 := P2.out.b.size
        have R3 : Hid (w3.ownsRow w.heap.size 5 1 (.slice A' x.dt.length c') x.dt.length (byt x.dt)) := Lib.hid (by
          refine ⟨r3.1, ?_⟩
          rcases r3.2 with h0 | ⟨g, cap, cur, e1, e2, e3⟩
          · exact .inl h0
          · exact .inr ⟨g, cap, cur, e1, by omega, e3⟩)
        have G3 := Lib.hid hg
        have hsz3 := P3.out.b.size
        have HENC : Hid ((encX ⟨x, .slice A' x.dt.length c'⟩).length = 1 * 7) := Lib.hid rfl
        have HEO := Lib.hid (encX_one ⟨x, .slice A' x.dt.length c'⟩ A' x.dt.length c' rfl)
        clear hg r3 b3 a0 a1 a2 a3 a4 a5 a6 HOT P2 K2
        generalize hxn : X.length = xn at *
        have HXN := Lib.hid hxn
        clear hxn
        have HPO := P3.out.o
        rw [HXN.out] at HPO
        have HPO := Lib.hid HPO
        go_wp2_with (at_builtin; refine wpList_append_own _ rfl _ _ 22 rfl w.heap.size 28 i28 _ 7 72 Try.underlying22 I28.out Z28.out S28.out Y28.out rfl (by omega) _ xn (flatX X) rfl HPO.out ⟨g, 0, none⟩ 1 1 (encX ⟨x, .slice A' x.dt.length c'⟩) rfl HENC.out (fun j u hj => by rw [add_plain, Nat.zero_add, (cell_of G3.out j).1]; simpa using hj) HEO.out (by unfold maxLen; omega) (by omega) hsz3 ?_; intro v' w5 hown' hgrow _; have P5 : Hid (PX w w5 v' (X ++ [⟨x, .slice A' x.dt.length c'⟩])) := Lib.hid (P3.out.push (.inr R3.out) hgrow (by rw [HXN.out]; exact hown')); clear hgrow hown')
        go_roundw
        case rel => exact ⟨k + 1, _, by omega, by go_num, Lib.hid (by rw [HS.out, ← HX.out]; simp [ents]), by simp [HXN.out]; omega, P5⟩
        case measure => simp [intOf]; omega
    · obtain rfl : k = n := by omega
      rw [HT.out] at HX
      have HR := HP.out.rd
      rw [HX.out] at HR
      have HR := Lib.hid HR
      go_wp2_with fail
      go_ret
      exact ⟨⟨_, rfl, HR.out⟩, HP.out.b⟩

theorem of_any (w : World) (va : Value) (es : List En) (id : Int) (ha : Rd w va es) (hla : es.length ≤ 1000000) (hdl : ∀ x ∈ es, x.dt.length ≤ 10000000) :
    Calls Try.prog 11 #[va, .int .i64 id] w fun e w' => (∃ v', e = .returned v' ∧ Rd w' v' (ofF es id)) ∧ Below w.heap.size w w' := by
  have B1 : Hid (Below w.heap.size w (w.alloc (.cells #[.int .i64 id] 3))) := Lib.hid ((Below.refl _ w).alloc (Nat.le_refl _) _)
  have HP := Lib.hid (ofpick_any (w.alloc (.cells #[.int .i64 id] 3)) va es w.heap.size id (cell_of (new_block w (.cells #[.int .i64 id] 3)) 0).1 (ha.below B1.out) hla hdl)
  clear ha hdl
  go_enter Try.func11, Try.ntmps11
  go_wp2_with fail
  refine HP.out.mono ?_
  rintro e w2 ⟨⟨v', rfl, r2⟩, b2⟩
  have R2 := Lib.hid r2; have B2 := Lib.hid b2
  clear r2 b2
  go_wp2_with fail
  go_ret
  exact ⟨⟨_, rfl, R2.out⟩, B1.out.trans (B2.out.mono (by simp))⟩
end Go.Proofs.Ytbanfkpfijcmcaa
