/- TraceTells. -/
import Derived.Laws.Concat
import Derived.Deep.RegionHeld3
import Derived.Test.YtbanfkpfijcmcaaI
import Derived.Test.YtbanfkpfijcmcaaG
import Derived.Test.YtbanfkpfijcmcaaCg
import Derived.Test.YtbanfkpfijcmcaaCp
import Derived.Test.YtbanfkpfijcmcaaCr
import Derived.Test.YtbanfkpfijcmcaaCe
namespace Go.Proofs.Ytbanfkpfijcmcaa
open Go.RowKit
set_option linter.unusedSimpArgs false
set_option linter.unusedVariables false
set_option maxRecDepth 100000

theorem grt_len (l : List En) : l.length * 10 ≤ grt l := by
  induction l with
  | nil => exact Nat.zero_le _
  | cons x r ih => simp [grt] at ih ⊢; omega
theorem grt_mem {l : List En} {x : En} (h : x ∈ l) : x.dt.length ≤ grt l := by
  induction l with
  | nil => cases h
  | cons y r ih =>
    rcases List.mem_cons.1 h with rfl | h
    · simp [grt]; omega
    · have := ih h
      simp [grt] at this ⊢; omega
theorem PX.pushOld {w W W' : World} {out out' : Value} {X : List Ex} {x : Ex} {n : Nat} (h : PX w W out X) (hn : X.length = n) (hx : DataAt w x.dv x.e.dt) (hg : W.grownBy W' out.ownBlock) (hown : W'.ownsRow w.heap.size 28 7 out' (n + 1) (flatX X ++ encX x)) : PX w W' out' (X ++ [x]) := by
  subst hn
  exact h.push (.inl hx) hg hown
theorem str_cat (S D : List UInt8) : (⟨S.toArray⟩ : ByteArray) ++ ⟨D.toArray⟩ = ⟨(S ++ D).toArray⟩ := ByteArray.mk_append_mk S D
/-- Where the k-th of the i-th group lies in the list. -/
theorem Gs.at {l : List En} {gs : List (List En)} (h : Gs l gs) {i k : Nat} {g : List En} {x : En} (hi : gs[i]? = some g) (hk : g[k]? = some x) : l[(gs.take i).flatten.length + k]? = some x ∧ ((k == 0) = ((gs.take i).flatten.length + k == 0 || x.kd == 1)) := by
  refine ⟨by rw [← h.fl]; exact flatten_at gs i k g x hi hk, ?_⟩
  have h0 := h.k0 i k g x hi hk
  have hp : (gs.take i).flatten.length = 0 ↔ i = 0 := by
    constructor
    · intro e
      by_cases hi0 : i = 0
      · exact hi0
      · exfalso
        have hl : 0 < gs.length := by have := (List.getElem?_eq_some_iff.1 hi).1; omega
        have h2 := h.ne gs[0] (List.getElem_mem hl)
        obtain ⟨j, rfl⟩ : ∃ j, i = j + 1 := ⟨i - 1, by omega⟩
        cases gs with
        | nil => simp at hl
        | cons a r =>
          simp only [List.take_succ_cons, List.flatten_cons, List.length_append] at e
          simp only [List.getElem_cons_zero] at h2
          have := List.length_pos_iff.2 h2
          omega
    · rintro rfl; rfl
  rw [Bool.eq_iff_iff, Bool.or_eq_true, beq_iff_eq, beq_iff_eq, beq_iff_eq, h0]
  constructor
  · rintro (⟨h1, h2⟩ | h1)
    · exact .inl (by have := hp.2 h1; omega)
    · exact .inr h1
  · rintro (h1 | h1)
    · exact .inl ⟨hp.1 (by omega), by omega⟩
    · exact .inr h1

/-- The worlds that keep W. -/
structure Aft (W : World) where
  val : World
  property : Below W.heap.size W val
instance (W : World) : Nonempty (Aft W) := ⟨⟨W, Below.refl _ _⟩⟩
theorem quiet_call {W : World} {P : Program} {f : FuncId} {args : Array Value} {v : Value} (n : Aft W) (h : Calls P f args n.val fun e w' => e = .returned v ∧ Below n.val.heap.size n.val w') : Calls P f args n.val fun e w'' => e = .returned v ∧ ∃ m : Aft W, w'' = m.val :=
  h.mono fun _ w' ⟨he, hb⟩ => ⟨he, ⟨w', n.property.trans (hb.mono n.property.size)⟩, rfl⟩
/-- A region that draws its order, reads, and calls what makes memory: one walk, in the order of the text. -/
theorem wp_region_aft {P : Program} {W : World} {id : Nat} {Q : Exit → Act → World → Prop} {a : Act} {w : World} {l : List Oper} (hm : P.follows .mixedOrders = true) (hB : Region.lexB .any l.toArray = true) (h0 : Below W.heap.size W w)
    (h : wpQuiet P l.toArray (fun w' => ∃ n : Aft W, w' = n.val) (fun a' => ∀ w', (∃ n : Aft W, w' = n.val) → Q .normal a' w') l a) : (Code.region id l.toArray true).wp P Q a w :=
  wp_region_quiet (C := fun w' => ∃ n : Aft W, w' = n.val) hm hB ⟨⟨_, h0.drew⟩, rfl⟩ (by simpa using h)
theorem TU.get {w W : World} {out : Value} {gs : List (List Ex)} {gv : List Value} (h : TU w W out gs gv) : ∃ A c, out = .slice A gv.length c ∧ ∀ j, j < gv.length → ∃ (go : Nat) (g : List Ex) (Al : Option Addr) (cl : Nat), A = some ⟨go, 0, none⟩ ∧ gs[j]? = some g ∧ (∀ W' : World, Below W.heap.size W W' → W'.cell? ⟨go, j, none⟩ = some (.slice Al g.length cl)) ∧ ∀ k, k < g.length → ∃ (x : Ex) (b off : Nat), g[k]? = some x ∧ Al = some ⟨b, off, none⟩ ∧ DataAt W x.dv x.e.dt ∧ ∀ W' : World, Below W.heap.size W W' → Two7 W' b (off + k * 7) x := by
  obtain ⟨A, c, rfl, -⟩ := row_form h.o
  refine ⟨A, c, rfl, fun j hj => ?_⟩
  obtain ⟨go, c', e⟩ := row_some h.o (by omega)
  injection e with e1 _ e2
  subst e1 e2
  have hjs : j < gs.length := by rw [← h.l]; exact hj
  have hv := List.getElem?_eq_getElem hj
  have hg := List.getElem?_eq_getElem hjs
  have hr := h.r j _ _ hv hg
  have hc := (row_at h.o j hj).1
  have hd := h.d gs[j] (List.getElem_mem hjs)
  have hE := ents_own hr (fun x hx => data_own (hd x hx))
  obtain ⟨Al, cl, e3, -, -, h3⟩ := hE.one
  rw [hv, e3] at hc
  exact ⟨go, gs[j], Al, cl, rfl, hg, fun W' hW => (hW.cell (p := ⟨go, j, none⟩) (cell_lt hc).1).trans hc, h3⟩

set_option maxHeartbeats 16000000 in
theorem tells_any (w : World) (va vb : Value) (ea eb : List En) (id q : Int) (ha : Rd w va ea) (hb : Rd w vb eb) (hga : grt ea ≤ 4611686018427387904) (hgb : grt eb ≤ 4611686018427387904) :
    Calls Try.prog 3 #[va, vb, .int .i64 id, .int .i64 q] w fun e w' => e = .returned (.bool true) ∧ Below w.heap.size w w' := by
  have HGA := Lib.hid (great_any w va ea ha hga); have HGB := Lib.hid (great_any w vb eb hb hgb)
  by_cases g1 : 6000 < grt ea
  · have e1 : grtV ea = 1 := if_pos g1
    rw [e1] at HGA
    clear ha hb hga hgb HGB e1 g1
    go_enter Try.func3, Try.ntmps3
    go_wp2_with (go_at_call 4; refine HGA.out.mono ?_; rintro e w1 ⟨rfl, rfl⟩)
    go_ret
    exact ⟨rfl, Below.refl _ _⟩
  by_cases g2 : 6000 < grt eb
  · have e1 : grtV ea = 0 := if_neg g1
    have e2 : grtV eb = 1 := if_pos g2
    rw [e1] at HGA
    rw [e2] at HGB
    clear ha hb hga hgb e1 g1 e2 g2
    go_enter Try.func3, Try.ntmps3
    go_wp2_with fail
    refine HGA.out.mono ?_
    rintro e w1 ⟨rfl, rfl⟩
    go_wp2_with fail
    refine HGB.out.mono ?_
    rintro e w1 ⟨rfl, rfl⟩
    go_wp2_with fail
    go_ret
    exact ⟨rfl, Below.refl _ _⟩
  have e1 : grtV ea = 0 := if_neg g1
  have e2 : grtV eb = 0 := if_neg g2
  rw [e1] at HGA
  rw [e2] at HGB
  have hl1 := grt_len ea
  have hl2 := grt_len eb
  have HGR : Hid (grt ea ≤ 6000) := Lib.hid (by omega)
  have HDL : Hid (∀ x ∈ ea, x.dt.length ≤ 6000) := Lib.hid (fun x hx => by have := grt_mem hx; omega)
  have HTURN : Hid (∀ W, Below w.heap.size w W → _) := Lib.hid (fun W hW => turns_any W va ea (ha.below hW) (by omega) (fun x hx => by have := grt_mem hx; omega))
  have HPA : Hid (∀ W, Below w.heap.size w W → _) := Lib.hid (fun W hW => parts_any W va vb ea eb (ha.below hW) (hb.below hW) (by omega) (by omega))
  have HRP : Hid (∀ W, Below w.heap.size w W → _) := Lib.hid (fun W hW => rparts_any W va vb ea eb (ha.below hW) (hb.below hW) (by omega) (by omega))
  have HSA : Hid (∀ W, Below w.heap.size w W → _) := Lib.hid (fun W hW => same_any W va vb ea eb (ha.below hW) (hb.below hW) (by omega) (by omega))
  have HRS : Hid (∀ W, Below w.heap.size w W → _) := Lib.hid (fun W hW => rsame_any W va vb ea eb (ha.below hW) (hb.below hW) (by omega) (by omega))
  have HOF : Hid (∀ W, Below w.heap.size w W → _) := Lib.hid (fun W hW => of_any W va ea id (ha.below hW) (by omega) (fun x hx => by have := grt_mem hx; omega))
  have HBY : Hid (∀ W, Below w.heap.size w W → _) := Lib.hid (fun W hW => bytes_any W va ea id q (ha.below hW) (by omega) (by omega))
  have hn1 : ea.length ≤ 600 := by omega
  have HOL : Hid ((ofF ea id).length ≤ 600) := Lib.hid (Nat.le_trans (List.length_filter_le _ _) hn1)
  obtain ⟨A, c, rfl, hac, hcm, hA⟩ := ha.one
  obtain ⟨A2, c2, rfl, -⟩ := hb.one
  have HA := Lib.hid hA
  have HT : Hid (ea.take ea.length = ea) := Lib.hid (List.take_length ..)
  have HBL : Hid (∀ k, (byF (ea.take k) id q).length ≤ 6000) := Lib.hid (fun k => Nat.le_trans (byF_len _ _ _) (Nat.le_trans (grt_take ea k) (by omega)))
  clear hA ha hb hga hgb e1 e2 g1 g2 hl1 hl2
  unfold maxLen at hcm
  obtain ⟨i28, hi0, hz0, hz1, hz2⟩ := info_parts info28
  have I28 := Lib.hid hi0; have Z28 := Lib.hid hz0; have S28 := Lib.hid hz1; have Y28 := Lib.hid hz2
  clear hi0 hz0 hz1 hz2
  generalize hM : ea.length = n at *
  generalize hM2 : eb.length = n2 at *
  clear hM2
  have HEN := Lib.hid hM
  clear hM
  go_enter Try.func3, Try.ntmps3
  go_wp2_with fail
  refine HGA.out.mono ?_
  rintro e w1 ⟨rfl, rfl⟩
  go_wp2_with fail
  refine HGB.out.mono ?_
  rintro e w1 ⟨rfl, rfl⟩
  clear HGA HGB
  go_wp2_with fail
  go_loopw [9, 10, 11] (fun o s i wr => ∃ (k : Nat) (X : List Ex) (S : List UInt8), k ≤ n ∧ i = .int .i64 k ∧ s = .string ⟨S.toArray⟩ ∧ Hid (S = byF (ea.take k) id q) ∧ Hid (ents X = ofF (ea.take k) id) ∧ X.length ≤ k ∧ Hid (PX w wr o X)) (fun _ _ i _ => n - (intOf i).toNat)
  case atStart => exact ⟨0, [], [], Nat.zero_le _, rfl, rfl, Lib.hid rfl, Lib.hid rfl, Nat.le_refl _, Lib.hid (PX.nil w)⟩
  case round =>
    obtain ⟨w7, rfl⟩ : ∃ w7 : World, w7 = wr := ⟨_, rfl⟩
    obtain ⟨k, X, S, hk, rfl, rfl, HS, HX, hxl, HP⟩ := hrel
    obtain ⟨A1, c1, rfl, -⟩ := row_form HP.out.o
    by_cases hkn : k < n
    · obtain ⟨x, Ad, cd, b, off, hx, rfl, hdx, hcx⟩ := HA.out k hkn
      obtain ⟨c0, c1', c2', c3, c4, c5, c6⟩ := hcx _ HP.out.b
      have hst : ea.take (k + 1) = ea.take k ++ [x] := by rw [List.take_add_one, hx]; rfl
      have HOS := Lib.hid (ofF_snoc (ea.take k) x id)
      rw [← hst] at HOS
      have HBS := Lib.hid (byF_snoc (ea.take k) x id q)
      rw [← hst] at HBS
      have hsl := HBL.out k
      rw [← HS.out] at hsl
      have hdl := HDL.out x (List.mem_of_getElem? hx)
      have hkn' : (k : Int) < (n : Int) := by omega
      have DX := Lib.hid hdx
      have HSTR : Hid (∀ W, Below w.heap.size w W → (convert 26 9 (.slice Ad x.dt.length cd)).run Try.prog W = .ok (.string ⟨x.dt.toArray⟩) W) := Lib.hid (fun W hW => DataAt.str (by
        obtain ⟨A', c', e, h2, h3, hn, h4⟩ := DX.out
        refine ⟨A', c', e, h2, h3, hn, fun h0 => ?_⟩
        obtain ⟨b, off, hA, hlt, hc⟩ := h4 h0
        exact ⟨b, off, hA, Nat.lt_of_lt_of_le hlt hW.size, fun j u hj => (hW.cell (p := ⟨b, off + j, none⟩) hlt).trans (hc j u hj)⟩))
      have HCX := Lib.hid hcx
      clear hcx hx hst hdx
      generalize hxn : X.length = xn at *
      have HXN := Lib.hid hxn
      clear hxn
      have HPO := HP.out.o
      rw [HXN.out] at HPO
      have HPO := Lib.hid HPO
      have hsz3 := HP.out.b.size
      have HSL := Lib.hid hsl; have HXDL := Lib.hid hdl
      clear hsl hdl
      cases e1 : (x.id == id)
      · have HO : Hid (ofP id x = false) := Lib.hid (by unfold ofP; rw [e1]; rfl)
        have HB : Hid (byP id q x = false) := Lib.hid (by unfold byP; rw [e1]; simp)
        rw [HO.out] at HOS
        rw [HB.out] at HBS
        cases e3 : (x.kd == 3)
        all_goals
          go_wp2_with fail
          go_roundw
          case rel => exact ⟨k + 1, X, S, by omega, by go_num, rfl, Lib.hid (by rw [HBS.out, HS.out]; rfl), Lib.hid (by rw [HOS.out, HX.out]; rfl), by rw [HXN.out]; omega, HP⟩
          case measure => simp [intOf]; omega
      · cases e2 : (x.kd == 2)
        · cases e3 : (x.kd == 3)
          · have HO : Hid (ofP id x = false) := Lib.hid (by unfold ofP; rw [e1, e2, e3]; rfl)
            have HB : Hid (byP id q x = false) := Lib.hid (by unfold byP; rw [e3]; rfl)
            rw [HO.out] at HOS
            rw [HB.out] at HBS
            go_wp2_with fail
            go_roundw
            case rel => exact ⟨k + 1, X, S, by omega, by go_num, rfl, Lib.hid (by rw [HBS.out, HS.out]; rfl), Lib.hid (by rw [HOS.out, HX.out]; rfl), by rw [HXN.out]; omega, HP⟩
            case measure => simp [intOf]; omega
          · have HO : Hid (ofP id x = true) := Lib.hid (by unfold ofP; rw [e1, e2, e3]; rfl)
            rw [HO.out] at HOS
            cases e4 : (x.nn == q)
            · have HB : Hid (byP id q x = false) := Lib.hid (by unfold byP; rw [e1, e3, e4]; rfl)
              rw [HB.out] at HBS
              have B6 : Hid (Below w7.heap.size w7 (w7.alloc (.cells #[.int .i64 x.kd, .int .u64 x.tk, .int .i64 x.id, .int .i64 x.fl, .int .i64 x.nn, .int .i64 x.er, .slice Ad x.dt.length cd] 28))) := Lib.hid ((Below.refl _ _).alloc (Nat.le_refl _) _)
              have P6 := Lib.hid (HP.out.below B6.out)
              have HE1 := Lib.hid (encX_one ⟨x, .slice Ad x.dt.length cd⟩ Ad x.dt.length cd rfl)
              go_upto_region 10 with (at_builtin; refine wpList_append_own _ rfl _ _ 22 rfl w.heap.size 28 i28 _ 7 72 Try.underlying22 I28.out Z28.out S28.out Y28.out rfl (by omega) _ xn (flatX X) rfl (HPO.out.alloc _) ⟨w7.heap.size, 0, none⟩ 1 1 (encX ⟨x, .slice Ad x.dt.length cd⟩) rfl rfl (World.news_of_block (cs := (encX ⟨x, .slice Ad x.dt.length cd⟩).toArray) (t := 28) (fr := (0, 0)) (by exact new_block _ _)) HE1.out (by unfold maxLen; omega) (by omega) (by simp; omega) ?_; intro v' w5 hown' hgrow _; have P5 : Hid (PX w w5 v' (X ++ [⟨x, .slice Ad x.dt.length cd⟩])) := Lib.hid (P6.out.pushOld HXN.out DX.out hgrow hown'); clear hgrow hown')
              obtain ⟨d0, d1, d2, d3, d4, d5, d6⟩ := HCX.out _ P5.out.b
              clear c0 c1' c2' c3 c4 c5 c6
              go_wp2_with fail
              go_roundw
              case rel => exact ⟨k + 1, _, S, by omega, by go_num, rfl, Lib.hid (by rw [HBS.out, HS.out]; rfl), Lib.hid (by rw [HOS.out, ← HX.out]; simp [ents]), by simp [HXN.out]; omega, P5⟩
              case measure => simp [intOf]; omega
            · have HB : Hid (byP id q x = true) := Lib.hid (by unfold byP; rw [e1, e3, e4]; rfl)
              rw [HB.out] at HBS
              have B6 : Hid (Below w7.heap.size w7 (w7.alloc (.cells #[.int .i64 x.kd, .int .u64 x.tk, .int .i64 x.id, .int .i64 x.fl, .int .i64 x.nn, .int .i64 x.er, .slice Ad x.dt.length cd] 28))) := Lib.hid ((Below.refl _ _).alloc (Nat.le_refl _) _)
              have P6 := Lib.hid (HP.out.below B6.out)
              have HE1 := Lib.hid (encX_one ⟨x, .slice Ad x.dt.length cd⟩ Ad x.dt.length cd rfl)
              go_upto_region 10 with (at_builtin; refine wpList_append_own _ rfl _ _ 22 rfl w.heap.size 28 i28 _ 7 72 Try.underlying22 I28.out Z28.out S28.out Y28.out rfl (by omega) _ xn (flatX X) rfl (HPO.out.alloc _) ⟨w7.heap.size, 0, none⟩ 1 1 (encX ⟨x, .slice Ad x.dt.length cd⟩) rfl rfl (World.news_of_block (cs := (encX ⟨x, .slice Ad x.dt.length cd⟩).toArray) (t := 28) (fr := (0, 0)) (by exact new_block _ _)) HE1.out (by unfold maxLen; omega) (by omega) (by simp; omega) ?_; intro v' w5 hown' hgrow _; have P5 : Hid (PX w w5 v' (X ++ [⟨x, .slice Ad x.dt.length cd⟩])) := Lib.hid (P6.out.pushOld HXN.out DX.out hgrow hown'); clear hgrow hown')
              obtain ⟨d0, d1, d2, d3, d4, d5, d6⟩ := HCX.out _ P5.out.b
              clear c0 c1' c2' c3 c4 c5 c6
              have cv := HSTR.out _ P5.out.b
              have hs2 := HSL.out
              have hd2 := HXDL.out
              go_wp2_with fail
              go_roundw
              case rel => exact ⟨k + 1, _, S ++ x.dt, by omega, by go_num, by rw [← str_cat], Lib.hid (by rw [HBS.out, ← HS.out]; rfl), Lib.hid (by rw [HOS.out, ← HX.out]; simp [ents]), by simp [HXN.out]; omega, P5⟩
              case measure => simp [intOf]; omega
        · have e3 : (x.kd == 3) = false := by have := beq_iff_eq.1 e2; rw [this]; rfl
          have HO : Hid (ofP id x = true) := Lib.hid (by unfold ofP; rw [e1, e2]; rfl)
          have HB : Hid (byP id q x = false) := Lib.hid (by unfold byP; rw [e3]; rfl)
          rw [HO.out] at HOS
          rw [HB.out] at HBS
          have B6 : Hid (Below w7.heap.size w7 (w7.alloc (.cells #[.int .i64 x.kd, .int .u64 x.tk, .int .i64 x.id, .int .i64 x.fl, .int .i64 x.nn, .int .i64 x.er, .slice Ad x.dt.length cd] 28))) := Lib.hid ((Below.refl _ _).alloc (Nat.le_refl _) _)
          have P6 := Lib.hid (HP.out.below B6.out)
          have HE1 := Lib.hid (encX_one ⟨x, .slice Ad x.dt.length cd⟩ Ad x.dt.length cd rfl)
          go_upto_region 10 with (at_builtin; refine wpList_append_own _ rfl _ _ 22 rfl w.heap.size 28 i28 _ 7 72 Try.underlying22 I28.out Z28.out S28.out Y28.out rfl (by omega) _ xn (flatX X) rfl (HPO.out.alloc _) ⟨w7.heap.size, 0, none⟩ 1 1 (encX ⟨x, .slice Ad x.dt.length cd⟩) rfl rfl (World.news_of_block (cs := (encX ⟨x, .slice Ad x.dt.length cd⟩).toArray) (t := 28) (fr := (0, 0)) (by exact new_block _ _)) HE1.out (by unfold maxLen; omega) (by omega) (by simp; omega) ?_; intro v' w5 hown' hgrow _; have P5 : Hid (PX w w5 v' (X ++ [⟨x, .slice Ad x.dt.length cd⟩])) := Lib.hid (P6.out.pushOld HXN.out DX.out hgrow hown'); clear hgrow hown')
          obtain ⟨d0, d1, d2, d3, d4, d5, d6⟩ := HCX.out _ P5.out.b
          clear c0 c1' c2' c3 c4 c5 c6
          go_wp2_with fail
          go_roundw
          case rel => exact ⟨k + 1, _, S, by omega, by go_num, rfl, Lib.hid (by rw [HBS.out, HS.out]; rfl), Lib.hid (by rw [HOS.out, ← HX.out]; simp [ents]), by simp [HXN.out]; omega, P5⟩
          case measure => simp [intOf]; omega
    · obtain rfl : n = k := by omega
      rw [HT.out] at HX HS
      clear HDL HBL hxl
      have HRDX : Hid (∀ W, Below w7.heap.size w7 W → Rd W _ (ofF ea id)) := Lib.hid (fun W hW => by rw [← HX.out]; exact (HP.out.below hW).rd)
      have HTN := Lib.hid (HTURN.out w7 HP.out.b)
      go_wp2_with fail
      refine HTN.out.mono ?_
      rintro e w8 ⟨⟨out, gs, gv, rfl, ht, hg⟩, hb8⟩
      have B8 : Hid (Below w.heap.size w w8) := Lib.hid (HP.out.b.trans (hb8.mono HP.out.b.size))
      have C8 := Lib.hid hb8
      obtain ⟨A4, c4, rfl, ht4⟩ := ht.get
      have HJ := Lib.hid ht4
      obtain ⟨P, hP⟩ : ∃ P : Nat → Nat, ∀ j, P j = ((gs.map ents).take j).flatten.length := ⟨_, fun _ => rfl⟩
      have HP0 : Hid (P 0 = 0) := Lib.hid (by rw [hP]; rfl)
      have HPN : Hid (P gv.length = n) := Lib.hid (by
        rw [hP, ht.l, show gs.length = (gs.map ents).length by simp, List.take_length, hg.fl]
        exact HEN.out)
      have HPS : Hid (∀ j g, gs[j]? = some g → P (j + 1) = P j + g.length) := Lib.hid (fun j g hj => by
        rw [hP, hP, flatten_take (gs.map ents) j (ents g) (by simp [hj])]
        simp [ents])
      have HAT : Hid (∀ j k g x, gs[j]? = some g → g[k]? = some x → ea[P j + k]? = some x.e ∧ ((k == 0) = (P j + k == 0 || x.e.kd == 1))) := Lib.hid (fun j k g x hj hk => by
        rw [hP]
        exact hg.at (i := j) (k := k) (g := ents g) (x := x.e) (by simp [hj]) (by simp [ents, hk]))
      have HGL2 : Hid (gv.length ≤ n ∧ ∀ g ∈ gs, g.length ≤ n) := Lib.hid (by
        have h5 := hg.len
        rw [HEN.out] at h5
        refine ⟨by rw [ht.l]; simpa using h5.1, fun g hgm => ?_⟩
        have := h5.2 (ents g) (List.mem_map_of_mem hgm)
        simpa [ents] using this)
      clear ht hg hb8 ht4 hP HTN HTURN HP HX
      generalize gv.length = gn at *
      have hgn : gn ≤ n := HGL2.out.1
      go_wp2_with fail
      go_loopw [13, 14] (fun at' i wz => ∃ (j p : Nat), j ≤ gn ∧ p ≤ n ∧ i = .int .i64 j ∧ at' = .int .i64 p ∧ Hid (p = P j) ∧ Hid (Below w8.heap.size w8 wz)) (fun _ i _ => gn - (intOf i).toNat)
      case atStart => exact ⟨0, 0, Nat.zero_le _, Nat.zero_le _, rfl, rfl, Lib.hid HP0.out.symm, Lib.hid (Below.refl _ _)⟩
      case round =>
        obtain ⟨wz, rfl⟩ : ∃ wz : World, wz = wr := ⟨_, rfl⟩
        obtain ⟨j, p, hj, hp, rfl, rfl, HPJ, HBZ⟩ := hrel
        by_cases hjn : j < gn
        · obtain ⟨go, g, Al, cl, rfl, hgj, hco, hK⟩ := HJ.out j hjn
          have HGJ := Lib.hid hgj; have HCO := Lib.hid hco; have HKK := Lib.hid hK
          have HPJ1 := Lib.hid (HPS.out j g hgj)
          clear hgj hco hK
          have hjn' : (j : Int) < (gn : Int) := by omega
          have HAJ := Lib.hid (HAT.out j)
          rw [← HPJ.out] at HPJ1 HAJ
          have HAJ := Lib.hid (fun k x h => HAJ.out k g x HGJ.out h)
          have hgl2 : g.length ≤ n := HGL2.out.2 g (List.mem_of_getElem? HGJ.out)
          generalize hgl : g.length = gl at *
          have HGL := Lib.hid hgl
          clear hgl
          go_wp2_with fail
          go_loopw [13, 15] (fun at' i wy => ∃ (k s : Nat), k ≤ gl ∧ s ≤ n ∧ i = .int .i64 k ∧ at' = .int .i64 s ∧ Hid (s = p + k) ∧ Hid (Below w8.heap.size w8 wy)) (fun _ i _ => gl - (intOf i).toNat)
          case atStart => exact ⟨0, p, Nat.zero_le _, hp, rfl, rfl, Lib.hid rfl, HBZ⟩
          case round =>
            obtain ⟨wy, rfl⟩ : ∃ wy : World, wy = wr := ⟨_, rfl⟩
            obtain ⟨k, s, hk, hs, rfl, rfl, HSP, HBY'⟩ := hrel
            have y0 := HCO.out wy HBY'.out
            by_cases hkn : k < gl
            · obtain ⟨x, gb, goff, hx, rfl, hdx, hcx⟩ := HKK.out k hkn
              obtain ⟨hes, hbb⟩ := HAJ.out k x hx
              rw [← HSP.out] at hes hbb
              have hsn : s < n := by have := (List.getElem?_eq_some_iff.1 hes).1; rw [HEN.out] at this; exact this
              obtain ⟨x', Ad, cd, b, off, hx', rfl, hdy, hcy⟩ := HA.out s hsn
              obtain rfl : x.e = x' := by rw [hes] at hx'; injection hx'
              obtain ⟨x, xv⟩ := x
              simp only at hes hbb hx' hdy hcy hdx hcx
              have hxs : ∀ W : World, Below wy.heap.size wy W → (W.cell? ⟨go, j, none⟩ = some (.slice (some ⟨gb, goff, none⟩) gl cl)) ∧ Two7 W gb (goff + k * 7) ⟨x, xv⟩ ∧ Two7 W b (off + s * 7) ⟨x, .slice Ad x.dt.length cd⟩ := fun W hW => by
                have h8 := HBY'.out.trans (hW.mono HBY'.out.size)
                exact ⟨HCO.out W h8, hcx W h8, hcy W (B8.out.trans (h8.mono B8.out.size))⟩
              unfold Two7 at hxs
              simp only [and_assoc] at hxs
              have HK := Lib.hid hxs
              have HON : Hid (∀ W, Below wy.heap.size wy W → Calls Try.prog 6 #[agX ⟨x, xv⟩, agX ⟨x, .slice Ad x.dt.length cd⟩] W fun e w' => e = .returned (.bool true) ∧ Below W.heap.size W w') := Lib.hid (fun W hW => by
                have h8 := HBY'.out.trans (hW.mono HBY'.out.size)
                have h9 := B8.out.trans (h8.mono B8.out.size)
                refine (rone_any W ⟨x, xv⟩ ⟨x, .slice Ad x.dt.length cd⟩ (hdx.below h8) (by
                  obtain ⟨A', c', e, h2, h3, hn, h4⟩ := hdy
                  refine ⟨A', c', e, h2, h3, hn, fun h0 => ?_⟩
                  obtain ⟨b, off, hA, hlt, hc⟩ := h4 h0
                  exact ⟨b, off, hA, Nat.lt_of_lt_of_le hlt h9.size, fun j u hj => (h9.cell (p := ⟨b, off + j, none⟩) hlt).trans (hc j u hj)⟩)).mono ?_
                rintro e w' ⟨rfl, hb⟩
                exact ⟨by rw [oneF_self], hb⟩)
              unfold agX at HON
              simp only at HON
              obtain ⟨y0, y1, y2, y3, y4, y5, y6, y7, z1, z2, z3, z4, z5, z6, z7⟩ := hxs wy (Below.refl _ _)
              clear hes hx' hdy hcy hdx hcx hxs
              have hsn' : (s : Int) < (n : Int) := by omega
              have hsn2 : ¬ ((n : Int) ≤ (s : Int)) := by omega
              have hkn' : (k : Int) < (gl : Int) := by omega
              generalize x.dt.length = ld at *
              have hkb : (((k : Int)) == 0) = (k == 0) := by rw [Bool.eq_iff_iff, beq_iff_eq, beq_iff_eq]; omega
              have hsb : (((s : Int)) == 0) = (s == 0) := by rw [Bool.eq_iff_iff, beq_iff_eq, beq_iff_eq]; omega
              rw [hbb] at hkb
              clear hbb
              go_upto_region 20 with (fail)
              cases es : (s == 0)
              case' false => cases ek : (x.kd == 1)
              all_goals
                rw [es] at hkb hsb
                first | (rw [ek] at hkb; simp only [Bool.or_true, Bool.or_false, Bool.true_or] at hkb) | (simp only [Bool.true_or] at hkb)
                clear es
                clear y0 y1 y2 y3 y4 y5 y6 y7 z1 z2 z3 z4 z5 z6 z7
                have y0 := fun n : Aft wy => (HK.out n.val n.property).1
                have y1 := fun n : Aft wy => (HK.out n.val n.property).2.1
                have y2 := fun n : Aft wy => (HK.out n.val n.property).2.2.1
                have y3 := fun n : Aft wy => (HK.out n.val n.property).2.2.2.1
                have y4 := fun n : Aft wy => (HK.out n.val n.property).2.2.2.2.1
                have y5 := fun n : Aft wy => (HK.out n.val n.property).2.2.2.2.2.1
                have y6 := fun n : Aft wy => (HK.out n.val n.property).2.2.2.2.2.2.1
                have y7 := fun n : Aft wy => (HK.out n.val n.property).2.2.2.2.2.2.2.1
                have z1 := fun n : Aft wy => (HK.out n.val n.property).2.2.2.2.2.2.2.2.1
                have z2 := fun n : Aft wy => (HK.out n.val n.property).2.2.2.2.2.2.2.2.2.1
                have z3 := fun n : Aft wy => (HK.out n.val n.property).2.2.2.2.2.2.2.2.2.2.1
                have z4 := fun n : Aft wy => (HK.out n.val n.property).2.2.2.2.2.2.2.2.2.2.2.1
                have z5 := fun n : Aft wy => (HK.out n.val n.property).2.2.2.2.2.2.2.2.2.2.2.2.1
                have z6 := fun n : Aft wy => (HK.out n.val n.property).2.2.2.2.2.2.2.2.2.2.2.2.2.1
                have z7 := fun n : Aft wy => (HK.out n.val n.property).2.2.2.2.2.2.2.2.2.2.2.2.2.2
                refine wp_region_aft (by kernel_rfl) (by kernel_rfl) (Below.refl _ wy) ?_
                repeat (any_goals (first | go_big_quiet_step ((go_at_call 6; exact quiet_call _ ((HON.out _ (Aft.property _)).mono (fun _ _ h => ⟨h.1, h.2⟩)))) | quiet_step ((go_at_call 6; exact quiet_call _ ((HON.out _ (Aft.property _)).mono (fun _ _ h => ⟨h.1, h.2⟩))))))
                refine wpQuiet_nil ?_
                intro _ hw'
                obtain ⟨⟨u1, b1⟩, hw''⟩ := hw'
                subst hw''
                have C1 := Lib.hid b1
                clear b1 y0 y1 y2 y3 y4 y5 y6 y7 z1 z2 z3 z4 z5 z6 z7
              all_goals
                have HB1 := Lib.hid (HBY'.out.trans (C1.out.mono HBY'.out.size))
                go_wp2_with fail
                go_roundw
                case rel => exact ⟨k + 1, s + 1, by omega, by omega, by go_num, by go_num, Lib.hid (by rw [HSP.out]; omega), HB1⟩
                case measure => simp [intOf]; omega
            · obtain rfl : gl = k := by omega
              go_wp2_with fail
              go_roundw
              case rel => exact ⟨j + 1, s, by omega, by omega, by go_num, rfl, Lib.hid (by rw [HPJ1.out, HSP.out]), HBY'⟩
              case measure => simp [intOf]; omega
        · obtain rfl : gn = j := by omega
          have hpn : n = p := by rw [HPJ.out, HPN.out]
          subst hpn
          have B9 := Lib.hid (B8.out.trans (HBZ.out.mono B8.out.size))
          have B9X := Lib.hid (C8.out.trans (HBZ.out.mono C8.out.size))
          clear HJ HP0 HPN HPS HAT HA HPJ HBZ B8 C8
          generalize partsF ea eb = pp at *
          generalize sameF ea eb = sm at *
          go_upto_region 23 with (fail)
          go_wp2_with fail
          refine (HPA.out _ B9.out).mono ?_
          rintro e u1 ⟨rfl, b⟩
          have D1 := Lib.hid (B9.out.trans (b.mono B9.out.size)); have E1 := Lib.hid (B9X.out.trans (b.mono B9X.out.size))
          clear b
          go_wp2_with fail
          refine (HRP.out _ D1.out).mono ?_
          rintro e u2 ⟨rfl, b⟩
          have D2 := Lib.hid (D1.out.trans (b.mono D1.out.size)); have E2 := Lib.hid (E1.out.trans (b.mono E1.out.size))
          clear b
          go_wp2_with fail
          refine (HSA.out _ D2.out).mono ?_
          rintro e u3 ⟨rfl, b⟩
          have D3 := Lib.hid (D2.out.trans (b.mono D2.out.size)); have E3 := Lib.hid (E2.out.trans (b.mono E2.out.size))
          clear b
          go_wp2_with fail
          refine (HRS.out _ D3.out).mono ?_
          rintro e u4 ⟨rfl, b⟩
          have D4 := Lib.hid (D3.out.trans (b.mono D3.out.size)); have E4 := Lib.hid (E3.out.trans (b.mono E3.out.size))
          clear b
          go_wp2_with fail
          refine (HOF.out _ D4.out).mono ?_
          rintro e u5 ⟨⟨vo, rfl, ho⟩, b⟩
          have D5 := Lib.hid (D4.out.trans (b.mono D4.out.size)); have E5 := Lib.hid (E4.out.trans (b.mono E4.out.size))
          have HO := Lib.hid ho
          clear b ho
          go_wp2_with fail
          have HSS := Lib.hid (rsame_any u5 vo _ (ofF ea id) (ofF ea id) HO.out (HRDX.out u5 E5.out) (Nat.le_trans HOL.out (by decide)) (Nat.le_trans HOL.out (by decide)))
          rw [sameF_self] at HSS
          refine HSS.out.mono ?_
          rintro e u6 ⟨rfl, b⟩
          have D6 := Lib.hid (D5.out.trans (b.mono D5.out.size))
          clear b
          go_wp2_with fail
          refine (HBY.out _ D6.out).mono ?_
          rintro e u7 ⟨⟨vy, rfl, hd⟩, b⟩
          have D7 := Lib.hid (D6.out.trans (b.mono D6.out.size))
          have cv := hd.str
          rw [← HS.out] at cv
          clear b hd
          go_wp2_with fail
          go_ret
          exact ⟨rfl, D7.out⟩
end Go.Proofs.Ytbanfkpfijcmcaa
