/- TraceNames, walked. -/
import Derived.Test.YtbanfkpfijcmcaaGreatDoorNw
import Derived.Test.YtbanfkpfijcmcaaGreatDoorLy
import Derived.Test.YtbanfkpfijcmcaaGreatDoorNb
import Derived.Test.YtbanfkpfijcmcaaGreatDoorNc
import Derived.Test.YtbanfkpfijcmcaaGreatDoorAl
import Derived.Test.YtbanfkpfijcmcaaGreatDoorCp
import Derived.Test.YtbanfkpfijcmcaaGreatDoorPt
namespace Go.Proofs.YtbanfkpfijcmcaaGreatDoor
open Go.RowKit
set_option linter.unusedSimpArgs false
set_option linter.unusedVariables false
set_option maxRecDepth 100000

/-- A list of one entry without bytes, laid out anew. -/
theorem rd_one (w : World) (kd tk id fl nn er : Int) : Rd (w.alloc (.cells #[.int .i64 kd, .int .u64 tk, .int .i64 id, .int .i64 fl, .int .i64 nn, .int .i64 er, .slice none 0 0] 28)) (.slice (some ⟨w.heap.size, 0, none⟩) 1 1) [⟨kd, tk, id, fl, nn, er, []⟩] := by
  have h2 := new_block w (.cells #[.int .i64 kd, .int .u64 tk, .int .i64 id, .int .i64 fl, .int .i64 nn, .int .i64 er, .slice none 0 0] 28)
  generalize w.alloc (.cells #[.int .i64 kd, .int .u64 tk, .int .i64 id, .int .i64 fl, .int .i64 nn, .int .i64 er, .slice none 0 0] 28) = W2 at *
  refine ⟨_, 1, rfl, Nat.le_refl _, by unfold maxLen; omega, fun k hk => ?_⟩
  have key : ∀ (W : World) (hW : Below W2.heap.size W2 W) (j : Nat), W.cell? ⟨w.heap.size, j, none⟩ = #[Value.int .i64 kd, .int .u64 tk, .int .i64 id, .int .i64 fl, .int .i64 nn, .int .i64 er, .slice none 0 0][j]? := fun W hW j => (cell_of ((hW.block _ (lt_of_block h2)).trans h2) j).1
  have hk0 : k = 0 := by simp at hk; exact hk
  subst hk0
  exact ⟨⟨⟨kd, tk, id, fl, nn, er, []⟩, .slice none 0 0⟩, _, 0, rfl, rfl, data_nil _, fun W hW => ⟨key W hW 0, key W hW 1, key W hW 2, key W hW 3, key W hW 4, key W hW 5, key W hW 6⟩⟩
theorem rd_none (w : World) : Rd w (.slice none 0 0) [] := ⟨none, 0, rfl, Nat.le_refl _, Nat.zero_le _, fun k hk => absurd hk (Nat.not_lt_zero _)⟩
theorem few_len : fewL.length = 4 := rfl
/-- The chapter's entries are one iteration. -/
theorem few_groups {L : List (List En)} (h : Gs fewL L) : L = [fewL] := by
  have hf := h.fl
  match L, h, hf with
  | [], _, hf => exact absurd hf (by unfold fewL; simp)
  | [g], _, hf => simp at hf; rw [hf]
  | g :: g2 :: r, h, hf =>
    exfalso
    have n1 := h.ne g (by simp)
    have n2 := h.ne g2 (by simp)
    obtain ⟨x, t, rfl⟩ := List.exists_cons_of_ne_nil n2
    obtain ⟨y, u, rfl⟩ := List.exists_cons_of_ne_nil n1
    have hk := (h.k0 1 0 (x :: t) x (by simp) (by simp)).1 rfl
    have hx : x.kd = 1 := by rcases hk with hk | hk; exact absurd hk.1 (by decide); exact hk
    have hm : fewL.tail = u ++ (x :: t ++ r.flatten) := by rw [← hf]; simp
    have hm2 : x ∈ fewL.tail := by rw [hm]; simp
    simp only [fewL, List.tail_cons, List.mem_cons, List.not_mem_nil, or_false] at hm2
    rcases hm2 with rfl | rfl | rfl <;> exact absurd hx (by decide)
theorem few_of : (ofF fewL 3).length = 2 := by decide +kernel
theorem few_by : byF fewL 3 2 = [97] := by decide +kernel
theorem few_parts : partsF fewL (fewL.take 2) = 2 := by decide +kernel
theorem few_self : partsF fewL fewL = -1 := by decide +kernel
theorem few_ck0 : checkF [⟨0, 0, 0, 0, 0, 0, []⟩] = false := by decide +kernel
theorem few_ck1 : checkF [⟨1, 0, 1, 0, 0, 0, []⟩] = false := by decide +kernel
theorem few_ckn : checkF [] = true := by decide +kernel
/-- Turns of the chapter's entries. -/
theorem few_turns {w W : World} {out : Value} {gs : List (List Ex)} {gv : List Value} (h : TU w W out gs gv) (hg : Gs fewL (gs.map ents)) :
    ∃ (go c : Nat) (Al : Option Addr) (cl : Nat), out = .slice (some ⟨go, 0, none⟩) 1 c ∧ ∀ W' : World, Below W.heap.size W W' → W'.cell? ⟨go, 0, none⟩ = some (.slice Al 4 cl) := by
  have hL := few_groups hg
  have h1 : gs.length = 1 := by have := congrArg List.length hL; simpa using this
  have hv : gv.length = 1 := by rw [h.l, h1]
  obtain ⟨go, c', e⟩ := row_some h.o (by omega)
  have hj : 0 < gv.length := by omega
  have hjs : 0 < gs.length := by omega
  have hr := h.r 0 _ _ (List.getElem?_eq_getElem hj) (List.getElem?_eq_getElem hjs)
  have hg4 : gs[0].length = 4 := by
    have h2 : (gs.map ents)[0]? = some fewL := by rw [hL]; rfl
    rw [List.getElem?_map, List.getElem?_eq_getElem hjs, Option.map_some] at h2
    have := congrArg List.length (Option.some.inj h2)
    rw [ents_len] at this
    exact this
  obtain ⟨Al, cl, e3, -⟩ := row_form hr
  subst e
  have hc := (row_at h.o 0 hj).1
  rw [List.getElem?_eq_getElem hj, e3, hg4] at hc
  rw [hv]
  exact ⟨go, c', Al, cl, rfl, fun W' hW => (hW.cell (p := ⟨go, 0, none⟩) (cell_lt hc).1).trans hc⟩

set_option maxHeartbeats 16000000 in
theorem names_walk (w : World) (hE : Ep w) : Calls Tryz.prog 3 #[] w fun e w' => e = .returned (.bool true) ∧ Below w.heap.size w w' := by
  have HWR := Lib.hid (fun W (s : ByteArray) (v : Int) (hW : Below w.heap.size w W) (hs : s.size ≤ 4000) (hv : wrongF s = v) => hv ▸ wrong_any s W (hE.below hW) (Tok.short (by omega)))
  have HCK := Lib.hid (fun W v l (hW : Below w.heap.size w W) (hr : Rd W v l) (hl : l.length ≤ 4) => check_any W v l hr (hE.e.below hW) (by unfold maxLen; omega))
  have HFW := Lib.hid (fun W => few_any W)
  have HAL := Lib.hid (fun W (hW : Below w.heap.size w W) => alive_any W (hE.e.below hW))
  have HTU := Lib.hid (fun W v (hr : Rd W v fewL) => (turns_any W v fewL hr (by decide) (by decide)))
  have HOF := Lib.hid (fun W v (hr : Rd W v fewL) => (of_any W v fewL 3 hr (by decide) (by decide)))
  have HBY := Lib.hid (fun W v (hr : Rd W v fewL) => (tbytes_any W v fewL 3 2 hr (by decide) (by decide)))
  have HPA := Lib.hid (fun W u v l (hu : Rd W u fewL) (hv : Rd W v l) (hl : l.length ≤ 4) => parts_any W u v fewL l hu hv (by decide) (by omega))
  clear hE
  have B0 := Lib.hid (Below.refl w.heap.size w)
  go_enter Tryz.func3, Tryz.ntmps3
  go_wp2_with fail
  refine (HWR.out _ _ 1 B0.out (by decide) wr1).mono ?_
  rintro e w1 ⟨rfl, b⟩
  have B1 := Lib.hid (B0.out.trans (b.mono B0.out.size)); clear b B0
  go_wp2_with fail
  refine (HWR.out _ _ 2 B1.out (by decide) wr2).mono ?_
  rintro e w2 ⟨rfl, b⟩
  have B2 := Lib.hid (B1.out.trans (b.mono B1.out.size)); clear b B1
  go_wp2_with fail
  refine (HWR.out _ _ 1 B2.out (by decide) wr3).mono ?_
  rintro e w3 ⟨rfl, b⟩
  have B3 := Lib.hid (B2.out.trans (b.mono B2.out.size)); clear b B2
  go_wp2_with fail
  refine (HWR.out _ _ 1 B3.out (by decide) wr4).mono ?_
  rintro e w4 ⟨rfl, b⟩
  have B4 := Lib.hid (B3.out.trans (b.mono B3.out.size)); clear b B3
  go_wp2_with fail
  refine (HWR.out _ _ 1 B4.out (by decide) wr5).mono ?_
  rintro e w5 ⟨rfl, b⟩
  have B5 := Lib.hid (B4.out.trans (b.mono B4.out.size)); clear b B4
  go_wp2_with fail
  refine (HWR.out _ _ 1 B5.out (by decide) wr6).mono ?_
  rintro e w6 ⟨rfl, b⟩
  have B6 := Lib.hid (B5.out.trans (b.mono B5.out.size)); clear b B5
  go_wp2_with fail
  refine (HWR.out _ _ 1 B6.out (by decide) wr7).mono ?_
  rintro e w7 ⟨rfl, b⟩
  have B7 := Lib.hid (B6.out.trans (b.mono B6.out.size)); clear b B6
  go_wp2_with fail
  refine (HWR.out _ _ 0 B7.out (by decide) wr8).mono ?_
  rintro e w8 ⟨rfl, b⟩
  have B8 := Lib.hid (B7.out.trans (b.mono B7.out.size)); clear b B7
  go_wp2_with fail
  refine (HWR.out _ _ 0 B8.out (by decide) wr9).mono ?_
  rintro e w9 ⟨rfl, b⟩
  have B9 := Lib.hid (B8.out.trans (b.mono B8.out.size)); clear b B8
  go_wp2_with fail
  refine (HWR.out _ _ 1 B9.out (by decide) wr10).mono ?_
  rintro e w10 ⟨rfl, b⟩
  have B10 := Lib.hid (B9.out.trans (b.mono B9.out.size)); clear b B9
  go_wp2_with fail
  refine (HWR.out _ _ 1 B10.out (by decide) wr11).mono ?_
  rintro e w11 ⟨rfl, b⟩
  have B11 := Lib.hid (B10.out.trans (b.mono B10.out.size)); clear b B10
  have A11 := Lib.hid (B11.out.alloc B11.out.size (.cells #[.int .i64 0, .int .u64 0, .int .i64 0, .int .i64 0, .int .i64 0, .int .i64 0, .slice none 0 0] 28))
  have HC1 := Lib.hid (HCK.out _ _ _ A11.out (rd_one w11 0 0 0 0 0 0) (by decide))
  rw [few_ck0] at HC1
  simp only [errV, Bool.false_eq_true, if_false] at HC1
  go_wp2_with fail
  refine HC1.out.mono ?_
  rintro e w12 ⟨rfl, b⟩
  have B12 := Lib.hid (A11.out.trans (b.mono A11.out.size)); clear b HC1 A11
  have A12 := Lib.hid (B12.out.alloc B12.out.size (.cells #[.int .i64 1, .int .u64 0, .int .i64 1, .int .i64 0, .int .i64 0, .int .i64 0, .slice none 0 0] 28))
  have HC1 := Lib.hid (HCK.out _ _ _ A12.out (rd_one w12 1 0 1 0 0 0) (by decide))
  rw [few_ck1] at HC1
  simp only [errV, Bool.false_eq_true, if_false] at HC1
  go_wp2_with fail
  refine HC1.out.mono ?_
  rintro e w13 ⟨rfl, b⟩
  have B13 := Lib.hid (A12.out.trans (b.mono A12.out.size)); clear b HC1 A12
  go_wp2_with fail
  refine (HFW.out _).mono ?_
  rintro e w14 ⟨v1, rfl, r1, b⟩
  have B14 := Lib.hid (B13.out.trans (b.mono B13.out.size)); clear b
  have HT1 := Lib.hid (HTU.out _ _ r1); clear r1
  go_wp2_with fail
  refine HT1.out.mono ?_
  rintro e w15 ⟨⟨out, gs, gv, rfl, tu, hg⟩, b⟩
  have B15 := Lib.hid (B14.out.trans (b.mono B14.out.size)); clear b HT1
  obtain ⟨go, c, Al, cl, rfl, hcell⟩ := few_turns tu hg
  have HCL := Lib.hid hcell
  clear tu hg hcell
  have HC2 := Lib.hid (fun W (hW : Below w.heap.size w W) => HCK.out W _ [] hW (rd_none W) (by decide))
  rw [few_ckn] at HC2
  simp only [errV, if_true] at HC2
  go_wp2_with fail
  refine (HAL.out _ B15.out).mono ?_
  rintro e w16 ⟨rfl, b⟩
  have B16 := Lib.hid (B15.out.trans (b.mono B15.out.size))
  have D16 := Lib.hid b; clear b
  go_wp2_with fail
  refine (HC2.out _ B16.out).mono ?_
  rintro e w17 ⟨rfl, b⟩
  have B17 := Lib.hid (B16.out.trans (b.mono B16.out.size))
  have D17 := D16.out.trans (b.mono D16.out.size); clear b
  have x0 := HCL.out w17 D17
  clear D17 D16
  go_wp2_with fail
  refine (HFW.out _).mono ?_
  rintro e w18 ⟨v2, rfl, r2, b⟩
  have B18 := Lib.hid (B17.out.trans (b.mono B17.out.size)); clear b x0 HCL
  have HO1 := Lib.hid (HOF.out _ _ r2); clear r2
  go_wp2_with fail
  refine HO1.out.mono ?_
  rintro e w19 ⟨⟨v3, rfl, r3⟩, b⟩
  obtain ⟨A3, c3, rfl, -⟩ := r3
  rw [few_of]
  have B19 := Lib.hid (B18.out.trans (b.mono B18.out.size)); clear b HO1
  go_wp2_with fail
  refine (HFW.out _).mono ?_
  rintro e w20 ⟨v4, rfl, r4, b⟩
  have B20 := Lib.hid (B19.out.trans (b.mono B19.out.size)); clear b
  have HY1 := Lib.hid (HBY.out _ _ r4); clear r4
  go_wp2_with fail
  refine HY1.out.mono ?_
  rintro e w21 ⟨⟨v5, rfl, r5⟩, b⟩
  have B21 := Lib.hid (B20.out.trans (b.mono B20.out.size)); clear b HY1
  have cv := r5.str
  rw [few_by] at cv
  clear r5
  go_wp2_with fail
  refine (HFW.out _).mono ?_
  rintro e w22 ⟨v6, rfl, r6, b⟩
  have B22 := Lib.hid (B21.out.trans (b.mono B21.out.size)); clear b cv
  have R6 := Lib.hid r6; clear r6
  go_wp2_with fail
  refine (HFW.out _).mono ?_
  rintro e w23 ⟨v7, rfl, r7, b⟩
  have B23 := Lib.hid (B22.out.trans (b.mono B22.out.size))
  have R6b := Lib.hid (R6.out.below b); clear b R6
  obtain ⟨A7, c7, rfl, k1, k2, -⟩ := id r7
  have R7 := Lib.hid (Rd.take r7 2 (by decide))
  rw [few_len] at k1 ⊢
  have sl := fun W => cut_any A7 4 c7 2 (by decide) k1 W
  have HP1 := Lib.hid (HPA.out _ _ _ _ R6b.out R7.out (by decide))
  rw [few_parts] at HP1
  clear R6b R7 r7 k2
  go_wp2_with fail
  refine HP1.out.mono ?_
  rintro e w24 ⟨rfl, b⟩
  have B24 := Lib.hid (B23.out.trans (b.mono B23.out.size)); clear b HP1 sl
  go_wp2_with fail
  refine (HFW.out _).mono ?_
  rintro e w25 ⟨v8, rfl, r8, b⟩
  have B25 := Lib.hid (B24.out.trans (b.mono B24.out.size)); clear b
  have R8 := Lib.hid r8; clear r8
  go_wp2_with fail
  refine (HFW.out _).mono ?_
  rintro e w26 ⟨v9, rfl, r9, b⟩
  have B26 := Lib.hid (B25.out.trans (b.mono B25.out.size))
  have HP2 := Lib.hid (HPA.out _ _ _ _ (R8.out.below b) r9 (by decide))
  rw [few_self] at HP2
  clear b R8 r9
  go_wp2_with fail
  refine HP2.out.mono ?_
  rintro e w27 ⟨rfl, b⟩
  have B27 := Lib.hid (B26.out.trans (b.mono B26.out.size)); clear b HP2
  go_wp2_with fail
  go_ret
  exact ⟨rfl, B27.out⟩
theorem names_top (W : World) (hE : (Ev W ∧ (∃ ev, W.cell? ⟨3, 0, none⟩ = some ev ∧ EvOk ev) ∧ ∃ ev, W.cell? ⟨4, 0, none⟩ = some ev ∧ EvOk ev) ∧ Fl.Mx W) : Calls Tryz.prog 3 #[] W fun e W' => e = .returned (.bool true) ∧ Below W.heap.size W W' :=
  names_walk W ⟨hE.1.1, hE.2, hE.1.2.1, hE.1.2.2⟩
end Go.Proofs.YtbanfkpfijcmcaaGreatDoor
