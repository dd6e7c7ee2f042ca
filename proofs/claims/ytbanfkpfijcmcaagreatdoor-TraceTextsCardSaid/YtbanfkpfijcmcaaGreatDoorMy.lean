/- may: walked. (Printed by tools/genMy.py.) -/
import Derived.Test.YtbanfkpfijcmcaaGreatDoorPl
namespace Go.Proofs.YtbanfkpfijcmcaaGreatDoor
open Go.RowKit
set_option linter.unusedSimpArgs false
set_option linter.unusedVariables false
set_option maxRecDepth 100000

theorem data_nil (w : World) : DataAt w (.slice none 0 0) [] := ⟨none, 0, rfl, Nat.le_refl _, Nat.zero_le _, fun _ => ⟨rfl, rfl⟩, fun h => absurd h (by simp)⟩
theorem set_block {w : World} {b : Nat} {cs : Array Value} {T : TypeId} {fr : Nat × Nat} (h : w.heap[b]? = some (.cells cs T fr)) (j : Nat) (v : Value) : (w.setCell ⟨b, j, none⟩ v).heap[b]? = some (.cells (cs.setIfInBounds j v) T fr) := by
  simp [World.setCell, Array.getElem?_modify, h]
theorem dec_and {p q : Prop} [Decidable p] [Decidable q] : decide (p ∧ q) = (decide p && decide q) := by simp
theorem cons_nil (d : List UInt8) : (d == []) = decide (d = []) := by cases d <;> simp
theorem may_eq1 (tk id fl nn er : Int) (dt : List UInt8) : mayF ⟨1, tk, id, fl, nn, er, dt⟩ = (decide (0 ≤ nn ∧ 0 ≤ id ∧ 0 ≤ er) && oneF ⟨1, tk, id, fl, nn, er, dt⟩ ⟨1, tk, 0, 0, nn, 0, []⟩) := by
  unfold mayF oneF
  simp only [beq_self_eq_true, Bool.true_and, Bool.and_true]
  rw [Bool.eq_iff_iff]
  simp [cons_nil]
  try omega
  skip
set_option maxHeartbeats 4000000 in
theorem may_1 (tk id fl nn er : Int) (dt : List UInt8) (dv : Value) (w : World) (hd : DataAt w dv dt) :
    Calls Tryz.prog 20 #[.agg #[.int .i64 1, .int .u64 tk, .int .i64 id, .int .i64 fl, .int .i64 nn, .int .i64 er, dv]] w fun e w' => e = .returned (.bool (mayF ⟨1, tk, id, fl, nn, er, dt⟩)) ∧ Below w.heap.size w w' := by
  have HO := Lib.hid (fun W (hW : Below w.heap.size w W) => one_any W ⟨⟨1, tk, id, fl, nn, er, dt⟩, dv⟩ ⟨⟨1, tk, 0, 0, nn, 0, []⟩, .slice none 0 0⟩ (hd.below hW) (data_nil _))
  have HM := Lib.hid (may_eq1 tk id fl nn er dt)
  unfold agX at HO
  simp only at HO
  generalize oneF ⟨1, tk, id, fl, nn, er, dt⟩ ⟨1, tk, 0, 0, nn, 0, []⟩ = q at HO HM
  generalize mayF ⟨1, tk, id, fl, nn, er, dt⟩ = m at HM ⊢
  have B0 := Lib.hid (((Below.refl _ w).alloc (Nat.le_refl _) (.cells #[.int .i64 1, .int .u64 tk, .int .i64 id, .int .i64 fl, .int .i64 nn, .int .i64 er, dv] 28)).alloc (by simp) (.cells #[.int .i64 1, .int .u64 tk, .int .i64 0, .int .i64 0, .int .i64 nn, .int .i64 0, .slice none 0 0] 28))
  clear hd
  go_enter Tryz.func20, Tryz.ntmps20
  go_wp2_with fail
  all_goals first
    | (refine (HO.out _ (by exact B0.out)).mono ?_
       rintro e w9 ⟨rfl, b9⟩
       have B9 := Lib.hid (Below.trans (by exact B0.out) (b9.mono (Below.size (by exact B0.out))))
       clear b9
       go_wp2_with fail
       go_ret
       exact ⟨by rw [HM.out, decide_eq_true (p := 0 ≤ nn ∧ 0 ≤ id ∧ 0 ≤ er) (by omega)]; rfl, B9.out⟩)
    | (go_ret
       exact ⟨by rw [HM.out, decide_eq_false (p := 0 ≤ nn ∧ 0 ≤ id ∧ 0 ≤ er) (by omega)]; rfl, by exact B0.out⟩)
theorem may_eq2 (tk id fl nn er : Int) (dt : List UInt8) (h2 : 0 ≤ fl ∧ fl < 64) : mayF ⟨2, tk, id, fl, nn, er, dt⟩ = (decide (0 ≤ nn ∧ 0 ≤ id ∧ 0 ≤ er) && oneF ⟨2, tk, id, fl, nn, er, dt⟩ ⟨2, tk, id, fl, nn, 0, []⟩) := by
  unfold mayF oneF
  simp only [beq_self_eq_true, Bool.true_and, Bool.and_true]
  rw [Bool.eq_iff_iff]
  simp [cons_nil]
  try omega
  all_goals (intros; constructor <;> (intro h; simp_all))
set_option maxHeartbeats 4000000 in
theorem may_2 (tk id fl nn er : Int) (dt : List UInt8) (dv : Value) (w : World) (hE : Ev w) (hd : DataAt w dv dt) (h2 : 0 ≤ fl ∧ fl < 64) :
    Calls Tryz.prog 20 #[.agg #[.int .i64 2, .int .u64 tk, .int .i64 id, .int .i64 fl, .int .i64 nn, .int .i64 er, dv]] w fun e w' => e = .returned (.bool (mayF ⟨2, tk, id, fl, nn, er, dt⟩)) ∧ Below w.heap.size w w' := by
  have HO := Lib.hid (fun W (hW : Below w.heap.size w W) => one_any W ⟨⟨2, tk, id, fl, nn, er, dt⟩, dv⟩ ⟨⟨2, tk, id, fl, nn, 0, []⟩, .slice none 0 0⟩ (hd.below hW) (data_nil _))
  have HM := Lib.hid (may_eq2 tk id fl nn er dt h2)
  unfold agX at HO
  simp only at HO
  generalize oneF ⟨2, tk, id, fl, nn, er, dt⟩ ⟨2, tk, id, fl, nn, 0, []⟩ = q at HO HM
  generalize mayF ⟨2, tk, id, fl, nn, er, dt⟩ = m at HM ⊢
  obtain ⟨h21, h22⟩ := h2
  have HT := Lib.hid (fun W (hW : Below w.heap.size w W) => Fl.Text_any fl W (hE.below hW).f)
  have htE : Fl.txE 0 fl = 0 := by unfold Fl.txE; rw [if_neg (by show ¬ (fl < 0 ∨ (2:Int) ^ Fl.nT 0 ≤ fl); have : (2:Int) ^ Fl.nT 0 = 64 := (by decide); omega)]
  unfold Fl.RT at HT
  rw [htE] at HT
  generalize (⟨(Fl.txL 0 fl).toArray⟩ : ByteArray) = ft at HT
  clear htE hE
  go_enter Tryz.func20, Tryz.ntmps20
  go_wp2_with fail
  have sx := new_block w (.cells #[.int .i64 2, .int .u64 tk, .int .i64 id, .int .i64 fl, .int .i64 nn, .int .i64 er, dv] 28)
  generalize hW1 : w.alloc (.cells #[.int .i64 2, .int .u64 tk, .int .i64 id, .int .i64 fl, .int .i64 nn, .int .i64 er, dv] 28) = W1 at *
  have hs1 : W1.heap.size = w.heap.size + 1 := by rw [← hW1]; simp
  have sy := new_block W1 (.cells #[.int .i64 2, .int .u64 tk, .int .i64 0, .int .i64 0, .int .i64 nn, .int .i64 0, .slice none 0 0] 28)
  rw [hs1] at sy
  have sx2 := (Below.heap_alloc W1 (.cells #[.int .i64 2, .int .u64 tk, .int .i64 0, .int .i64 0, .int .i64 nn, .int .i64 0, .slice none 0 0] 28) w.heap.size (by omega)).trans sx
  have B2 := Lib.hid (((Below.refl _ w).alloc (Nat.le_refl _) (.cells #[.int .i64 2, .int .u64 tk, .int .i64 id, .int .i64 fl, .int .i64 nn, .int .i64 er, dv] 28)).alloc (by simp) (.cells #[.int .i64 2, .int .u64 tk, .int .i64 0, .int .i64 0, .int .i64 nn, .int .i64 0, .slice none 0 0] 28))
  rw [hW1] at B2
  generalize W1.alloc (.cells #[.int .i64 2, .int .u64 tk, .int .i64 0, .int .i64 0, .int .i64 nn, .int .i64 0, .slice none 0 0] 28) = W2 at *
  clear sx hW1 hs1
  refine (HT.out _ B2.out).mono ?_
  rintro e w3 ⟨rfl, b3⟩
  have sx3 := (b3.block _ (lt_of_block sx2)).trans sx2
  have sy3 := (b3.block _ (lt_of_block sy)).trans sy
  have B3 := Lib.hid (B2.out.trans (b3.mono B2.out.size))
  clear sx2 sy B2 b3
  obtain ⟨x2, -⟩ := cell_of sx3 2; obtain ⟨x3, -⟩ := cell_of sx3 3
  simp only [List.getElem?_toArray, List.getElem?_cons_succ, List.getElem?_cons_zero] at x2 x3
  go_wp2_with fail
  generalize w3 = W2 at *
  have B2 := B3; clear B3
  have sx2 := sx3; have sy := sy3; clear sx3 sy3
  have HX := Lib.hid sx2; have HY := Lib.hid sy
  have x2 := (cell_of sx2 2).1
  obtain ⟨y2, f2⟩ := cell_of sy 2
  have x3 := (cell_of sx2 3).1
  obtain ⟨y3, f3⟩ := cell_of sy 3
  simp only [List.getElem?_toArray, List.getElem?_cons_succ, List.getElem?_cons_zero] at x2 y2 x3 y3
  clear sx2 sy
  have hne : w.heap.size ≠ w.heap.size + 1 := by omega
  have HS := Lib.hid (fun (W' : World) (h : W'.heap[w.heap.size]? = some (.cells #[.int .i64 2, .int .u64 tk, .int .i64 id, .int .i64 fl, .int .i64 nn, .int .i64 er, dv] 28)) => show W'.cell? ⟨w.heap.size, 2, none⟩ = some (.int .i64 id) ∧ W'.cell? ⟨w.heap.size, 3, none⟩ = some (.int .i64 fl) from ⟨(cell_of h 2).1, (cell_of h 3).1⟩)
  go_region_held3 (fun W' => W'.cell? ⟨w.heap.size, 2, none⟩ = some (.int .i64 id) ∧ W'.cell? ⟨w.heap.size, 3, none⟩ = some (.int .i64 fl)) (exact HS.out _ (by first | exact HX.out | exact (Below.heap_setCell _ _ _ _ hne).trans HX.out | exact ((Below.heap_setCell _ _ _ _ hne).trans (Below.heap_setCell _ _ _ _ hne)).trans HX.out | exact (((Below.heap_setCell _ _ _ _ hne).trans (Below.heap_setCell _ _ _ _ hne)).trans (Below.heap_setCell _ _ _ _ hne)).trans HX.out)) (fail)
  have sx3 : ((W2.setCell ⟨w.heap.size + 1, 2, none⟩ (.int .i64 id)).setCell ⟨w.heap.size + 1, 3, none⟩ (.int .i64 fl)).drew.heap[w.heap.size]? = some (.cells #[.int .i64 2, .int .u64 tk, .int .i64 id, .int .i64 fl, .int .i64 nn, .int .i64 er, dv] 28) := by show ((W2.setCell ⟨w.heap.size + 1, 2, none⟩ (.int .i64 id)).setCell ⟨w.heap.size + 1, 3, none⟩ (.int .i64 fl)).heap[w.heap.size]? = _; exact ((Below.heap_setCell _ _ _ _ hne).trans (Below.heap_setCell _ _ _ _ hne)).trans HX.out
  have sy3 : ((W2.setCell ⟨w.heap.size + 1, 2, none⟩ (.int .i64 id)).setCell ⟨w.heap.size + 1, 3, none⟩ (.int .i64 fl)).drew.heap[w.heap.size + 1]? = some (.cells #[.int .i64 2, .int .u64 tk, .int .i64 id, .int .i64 fl, .int .i64 nn, .int .i64 0, .slice none 0 0] 28) := by show ((W2.setCell ⟨w.heap.size + 1, 2, none⟩ (.int .i64 id)).setCell ⟨w.heap.size + 1, 3, none⟩ (.int .i64 fl)).heap[w.heap.size + 1]? = _; exact set_block (set_block (HY.out) 2 (.int .i64 id)) 3 (.int .i64 fl)
  have B3 : Hid (Below w.heap.size w ((W2.setCell ⟨w.heap.size + 1, 2, none⟩ (.int .i64 id)).setCell ⟨w.heap.size + 1, 3, none⟩ (.int .i64 fl)).drew) := Lib.hid ((B2.out.setCell (p := ⟨w.heap.size + 1, 2, none⟩) (by simp) (.int .i64 id)).setCell (p := ⟨w.heap.size + 1, 3, none⟩) (by simp) (.int .i64 fl)).drew
  generalize ((W2.setCell ⟨w.heap.size + 1, 2, none⟩ (.int .i64 id)).setCell ⟨w.heap.size + 1, 3, none⟩ (.int .i64 fl)).drew = W3 at *
  clear HX HY HS x2 y2 x3 y3 f2 f3
  have x0 := (cell_of sx3 0).1
  have y0 := (cell_of sy3 0).1
  have x1 := (cell_of sx3 1).1
  have y1 := (cell_of sy3 1).1
  have x2 := (cell_of sx3 2).1
  have y2 := (cell_of sy3 2).1
  have x3 := (cell_of sx3 3).1
  have y3 := (cell_of sy3 3).1
  have x4 := (cell_of sx3 4).1
  have y4 := (cell_of sy3 4).1
  have x5 := (cell_of sx3 5).1
  have y5 := (cell_of sy3 5).1
  have x6 := (cell_of sx3 6).1
  have y6 := (cell_of sy3 6).1
  simp only [List.getElem?_toArray, List.getElem?_cons_succ, List.getElem?_cons_zero] at x0 y0 x1 y1 x2 y2 x3 y3 x4 y4 x5 y5 x6 y6
  clear sx3 sy3
  go_wp2_with fail
  all_goals first
    | (refine (HO.out _ (by exact B3.out)).mono ?_
       rintro e w9 ⟨rfl, b9⟩
       have B9 := Lib.hid (Below.trans (by exact B3.out) (b9.mono (Below.size (by exact B3.out))))
       clear b9
       go_wp2_with fail
       go_ret
       exact ⟨by rw [HM.out, decide_eq_true (p := 0 ≤ nn ∧ 0 ≤ id ∧ 0 ≤ er) (by omega)]; rfl, B9.out⟩)
    | (go_ret
       exact ⟨by rw [HM.out, decide_eq_false (p := 0 ≤ nn ∧ 0 ≤ id ∧ 0 ≤ er) (by omega)]; rfl, by exact B3.out⟩)
theorem may_eq3 (tk id fl nn er : Int) (dt : List UInt8) (h3 : nn < 100 ∧ dt.length ≤ 65536) : mayF ⟨3, tk, id, fl, nn, er, dt⟩ = (decide (0 ≤ nn ∧ 0 ≤ id ∧ 0 ≤ er) && oneF ⟨3, tk, id, fl, nn, er, dt⟩ ⟨3, tk, id, 0, nn, er, dt⟩) := by
  unfold mayF oneF
  simp only [beq_self_eq_true, Bool.true_and, Bool.and_true]
  rw [Bool.eq_iff_iff]
  simp [cons_nil]
  try omega
  skip
set_option maxHeartbeats 4000000 in
theorem may_3 (tk id fl nn er : Int) (dt : List UInt8) (dv : Value) (w : World) (hd : DataAt w dv dt) (h3 : nn < 100 ∧ dt.length ≤ 65536) :
    Calls Tryz.prog 20 #[.agg #[.int .i64 3, .int .u64 tk, .int .i64 id, .int .i64 fl, .int .i64 nn, .int .i64 er, dv]] w fun e w' => e = .returned (.bool (mayF ⟨3, tk, id, fl, nn, er, dt⟩)) ∧ Below w.heap.size w w' := by
  have HO := Lib.hid (fun W (hW : Below w.heap.size w W) => one_any W ⟨⟨3, tk, id, fl, nn, er, dt⟩, dv⟩ ⟨⟨3, tk, id, 0, nn, er, dt⟩, dv⟩ (hd.below hW) (hd.below hW))
  have HM := Lib.hid (may_eq3 tk id fl nn er dt h3)
  unfold agX at HO
  simp only at HO
  generalize oneF ⟨3, tk, id, fl, nn, er, dt⟩ ⟨3, tk, id, 0, nn, er, dt⟩ = q at HO HM
  generalize mayF ⟨3, tk, id, fl, nn, er, dt⟩ = m at HM ⊢
  have hl : (dt.length : Int) ≤ 65536 := by omega
  obtain ⟨A, c, rfl, -, -, -, -⟩ := hd
  obtain ⟨h31, h32⟩ := h3
  go_enter Tryz.func20, Tryz.ntmps20
  go_wp2_with fail
  have sx := new_block w (.cells #[.int .i64 3, .int .u64 tk, .int .i64 id, .int .i64 fl, .int .i64 nn, .int .i64 er, .slice A dt.length c] 28)
  generalize hW1 : w.alloc (.cells #[.int .i64 3, .int .u64 tk, .int .i64 id, .int .i64 fl, .int .i64 nn, .int .i64 er, .slice A dt.length c] 28) = W1 at *
  have hs1 : W1.heap.size = w.heap.size + 1 := by rw [← hW1]; simp
  have sy := new_block W1 (.cells #[.int .i64 3, .int .u64 tk, .int .i64 0, .int .i64 0, .int .i64 nn, .int .i64 0, .slice none 0 0] 28)
  rw [hs1] at sy
  have sx2 := (Below.heap_alloc W1 (.cells #[.int .i64 3, .int .u64 tk, .int .i64 0, .int .i64 0, .int .i64 nn, .int .i64 0, .slice none 0 0] 28) w.heap.size (by omega)).trans sx
  have B2 := Lib.hid (((Below.refl _ w).alloc (Nat.le_refl _) (.cells #[.int .i64 3, .int .u64 tk, .int .i64 id, .int .i64 fl, .int .i64 nn, .int .i64 er, .slice A dt.length c] 28)).alloc (by simp) (.cells #[.int .i64 3, .int .u64 tk, .int .i64 0, .int .i64 0, .int .i64 nn, .int .i64 0, .slice none 0 0] 28))
  rw [hW1] at B2
  generalize W1.alloc (.cells #[.int .i64 3, .int .u64 tk, .int .i64 0, .int .i64 0, .int .i64 nn, .int .i64 0, .slice none 0 0] 28) = W2 at *
  clear sx hW1 hs1
  have HX := Lib.hid sx2; have HY := Lib.hid sy
  have x2 := (cell_of sx2 2).1
  obtain ⟨y2, f2⟩ := cell_of sy 2
  have x5 := (cell_of sx2 5).1
  obtain ⟨y5, f5⟩ := cell_of sy 5
  have x6 := (cell_of sx2 6).1
  obtain ⟨y6, f6⟩ := cell_of sy 6
  simp only [List.getElem?_toArray, List.getElem?_cons_succ, List.getElem?_cons_zero] at x2 y2 x5 y5 x6 y6
  clear sx2 sy
  have hne : w.heap.size ≠ w.heap.size + 1 := by omega
  have HS := Lib.hid (fun (W' : World) (h : W'.heap[w.heap.size]? = some (.cells #[.int .i64 3, .int .u64 tk, .int .i64 id, .int .i64 fl, .int .i64 nn, .int .i64 er, .slice A dt.length c] 28)) => show W'.cell? ⟨w.heap.size, 2, none⟩ = some (.int .i64 id) ∧ W'.cell? ⟨w.heap.size, 5, none⟩ = some (.int .i64 er) ∧ W'.cell? ⟨w.heap.size, 6, none⟩ = some (.slice A dt.length c) from ⟨(cell_of h 2).1, (cell_of h 5).1, (cell_of h 6).1⟩)
  go_region_held3 (fun W' => W'.cell? ⟨w.heap.size, 2, none⟩ = some (.int .i64 id) ∧ W'.cell? ⟨w.heap.size, 5, none⟩ = some (.int .i64 er) ∧ W'.cell? ⟨w.heap.size, 6, none⟩ = some (.slice A dt.length c)) (exact HS.out _ (by first | exact HX.out | exact (Below.heap_setCell _ _ _ _ hne).trans HX.out | exact ((Below.heap_setCell _ _ _ _ hne).trans (Below.heap_setCell _ _ _ _ hne)).trans HX.out | exact (((Below.heap_setCell _ _ _ _ hne).trans (Below.heap_setCell _ _ _ _ hne)).trans (Below.heap_setCell _ _ _ _ hne)).trans HX.out)) (fail)
  have sx3 : (((W2.setCell ⟨w.heap.size + 1, 2, none⟩ (.int .i64 id)).setCell ⟨w.heap.size + 1, 5, none⟩ (.int .i64 er)).setCell ⟨w.heap.size + 1, 6, none⟩ (.slice A dt.length c)).drew.heap[w.heap.size]? = some (.cells #[.int .i64 3, .int .u64 tk, .int .i64 id, .int .i64 fl, .int .i64 nn, .int .i64 er, .slice A dt.length c] 28) := by show (((W2.setCell ⟨w.heap.size + 1, 2, none⟩ (.int .i64 id)).setCell ⟨w.heap.size + 1, 5, none⟩ (.int .i64 er)).setCell ⟨w.heap.size + 1, 6, none⟩ (.slice A dt.length c)).heap[w.heap.size]? = _; exact ((Below.heap_setCell _ _ _ _ hne).trans ((Below.heap_setCell _ _ _ _ hne).trans (Below.heap_setCell _ _ _ _ hne))).trans HX.out
  have sy3 : (((W2.setCell ⟨w.heap.size + 1, 2, none⟩ (.int .i64 id)).setCell ⟨w.heap.size + 1, 5, none⟩ (.int .i64 er)).setCell ⟨w.heap.size + 1, 6, none⟩ (.slice A dt.length c)).drew.heap[w.heap.size + 1]? = some (.cells #[.int .i64 3, .int .u64 tk, .int .i64 id, .int .i64 0, .int .i64 nn, .int .i64 er, .slice A dt.length c] 28) := by show (((W2.setCell ⟨w.heap.size + 1, 2, none⟩ (.int .i64 id)).setCell ⟨w.heap.size + 1, 5, none⟩ (.int .i64 er)).setCell ⟨w.heap.size + 1, 6, none⟩ (.slice A dt.length c)).heap[w.heap.size + 1]? = _; exact set_block (set_block (set_block (HY.out) 2 (.int .i64 id)) 5 (.int .i64 er)) 6 (.slice A dt.length c)
  have B3 : Hid (Below w.heap.size w (((W2.setCell ⟨w.heap.size + 1, 2, none⟩ (.int .i64 id)).setCell ⟨w.heap.size + 1, 5, none⟩ (.int .i64 er)).setCell ⟨w.heap.size + 1, 6, none⟩ (.slice A dt.length c)).drew) := Lib.hid (((B2.out.setCell (p := ⟨w.heap.size + 1, 2, none⟩) (by simp) (.int .i64 id)).setCell (p := ⟨w.heap.size + 1, 5, none⟩) (by simp) (.int .i64 er)).setCell (p := ⟨w.heap.size + 1, 6, none⟩) (by simp) (.slice A dt.length c)).drew
  generalize (((W2.setCell ⟨w.heap.size + 1, 2, none⟩ (.int .i64 id)).setCell ⟨w.heap.size + 1, 5, none⟩ (.int .i64 er)).setCell ⟨w.heap.size + 1, 6, none⟩ (.slice A dt.length c)).drew = W3 at *
  clear HX HY HS x2 y2 x5 y5 x6 y6 f2 f5 f6
  have x0 := (cell_of sx3 0).1
  have y0 := (cell_of sy3 0).1
  have x1 := (cell_of sx3 1).1
  have y1 := (cell_of sy3 1).1
  have x2 := (cell_of sx3 2).1
  have y2 := (cell_of sy3 2).1
  have x3 := (cell_of sx3 3).1
  have y3 := (cell_of sy3 3).1
  have x4 := (cell_of sx3 4).1
  have y4 := (cell_of sy3 4).1
  have x5 := (cell_of sx3 5).1
  have y5 := (cell_of sy3 5).1
  have x6 := (cell_of sx3 6).1
  have y6 := (cell_of sy3 6).1
  simp only [List.getElem?_toArray, List.getElem?_cons_succ, List.getElem?_cons_zero] at x0 y0 x1 y1 x2 y2 x3 y3 x4 y4 x5 y5 x6 y6
  clear sx3 sy3
  go_wp2_with fail
  all_goals first
    | (refine (HO.out _ (by exact B3.out)).mono ?_
       rintro e w9 ⟨rfl, b9⟩
       have B9 := Lib.hid (Below.trans (by exact B3.out) (b9.mono (Below.size (by exact B3.out))))
       clear b9
       go_wp2_with fail
       go_ret
       exact ⟨by rw [HM.out, decide_eq_true (p := 0 ≤ nn ∧ 0 ≤ id ∧ 0 ≤ er) (by omega)]; rfl, B9.out⟩)
    | (go_ret
       exact ⟨by rw [HM.out, decide_eq_false (p := 0 ≤ nn ∧ 0 ≤ id ∧ 0 ≤ er) (by omega)]; rfl, by exact B3.out⟩)
theorem may_eq4 (tk id fl nn er : Int) (dt : List UInt8) : mayF ⟨4, tk, id, fl, nn, er, dt⟩ = (decide (0 ≤ nn ∧ 0 ≤ id ∧ 0 ≤ er) && oneF ⟨4, tk, id, fl, nn, er, dt⟩ ⟨4, tk, 0, 0, nn, er, []⟩) := by
  unfold mayF oneF
  simp only [beq_self_eq_true, Bool.true_and, Bool.and_true]
  rw [Bool.eq_iff_iff]
  simp [cons_nil]
  try omega
  skip
set_option maxHeartbeats 4000000 in
theorem may_4 (tk id fl nn er : Int) (dt : List UInt8) (dv : Value) (w : World) (hd : DataAt w dv dt) :
    Calls Tryz.prog 20 #[.agg #[.int .i64 4, .int .u64 tk, .int .i64 id, .int .i64 fl, .int .i64 nn, .int .i64 er, dv]] w fun e w' => e = .returned (.bool (mayF ⟨4, tk, id, fl, nn, er, dt⟩)) ∧ Below w.heap.size w w' := by
  have HO := Lib.hid (fun W (hW : Below w.heap.size w W) => one_any W ⟨⟨4, tk, id, fl, nn, er, dt⟩, dv⟩ ⟨⟨4, tk, 0, 0, nn, er, []⟩, .slice none 0 0⟩ (hd.below hW) (data_nil _))
  have HM := Lib.hid (may_eq4 tk id fl nn er dt)
  unfold agX at HO
  simp only at HO
  generalize oneF ⟨4, tk, id, fl, nn, er, dt⟩ ⟨4, tk, 0, 0, nn, er, []⟩ = q at HO HM
  generalize mayF ⟨4, tk, id, fl, nn, er, dt⟩ = m at HM ⊢
  have B0 := Lib.hid (((Below.refl _ w).alloc (Nat.le_refl _) (.cells #[.int .i64 4, .int .u64 tk, .int .i64 id, .int .i64 fl, .int .i64 nn, .int .i64 er, dv] 28)).alloc (by simp) (.cells #[.int .i64 4, .int .u64 tk, .int .i64 0, .int .i64 0, .int .i64 nn, .int .i64 er, .slice none 0 0] 28))
  clear hd
  go_enter Tryz.func20, Tryz.ntmps20
  go_wp2_with fail
  all_goals first
    | (refine (HO.out _ (by exact B0.out)).mono ?_
       rintro e w9 ⟨rfl, b9⟩
       have B9 := Lib.hid (Below.trans (by exact B0.out) (b9.mono (Below.size (by exact B0.out))))
       clear b9
       go_wp2_with fail
       go_ret
       exact ⟨by rw [HM.out, decide_eq_true (p := 0 ≤ nn ∧ 0 ≤ id ∧ 0 ≤ er) (by omega)]; rfl, B9.out⟩)
    | (go_ret
       exact ⟨by rw [HM.out, decide_eq_false (p := 0 ≤ nn ∧ 0 ≤ id ∧ 0 ≤ er) (by omega)]; rfl, by exact B0.out⟩)
end Go.Proofs.YtbanfkpfijcmcaaGreatDoor
