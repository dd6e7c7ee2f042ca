/- The walk of FdsetParts. -/
import Derived.Deep.DeepCutAuto
import Derived.Test.YtljfnfaljadjdaaDoorOn
namespace Go.Proofs.YtljfnfaljadjdaaDoor
open Go.RowKit
set_option linter.unusedSimpArgs false
set_option linter.unusedVariables false
set_option maxRecDepth 100000

theorem test_lss (a c i : Nat) (hc : c < 4294967296) (hi : i < 32) : (lss a c).testBit i = (a.testBit i && !c.testBit i) := by unfold lss; rw [Nat.testBit_and, test_not _ _ hc hi]
theorem pw1 (a c : Nat) (ha : a < 4294967296) (hc : c < 4294967296) : (a &&& c) ||| lss a c = a :=
  word_ext _ _ (or_lt2 _ _ (and_lt _ _ ha) (lss_lt _ _ ha)) ha fun i hi => by rw [Nat.testBit_or, Nat.testBit_and, test_lss _ _ _ hc hi]; cases a.testBit i <;> cases c.testBit i <;> rfl
theorem pw2 (a c : Nat) (ha : a < 4294967296) (hc : c < 4294967296) : (a &&& c) &&& lss a c = 0 :=
  word_ext _ _ (and_lt _ _ (and_lt _ _ ha)) (by decide) fun i hi => by rw [Nat.testBit_and, Nat.testBit_and, test_lss _ _ _ hc hi, Nat.zero_testBit]; cases a.testBit i <;> cases c.testBit i <;> rfl
theorem pw3 (a c : Nat) (ha : a < 4294967296) (hc : c < 4294967296) : (a &&& c) &&& lss c a = 0 :=
  word_ext _ _ (and_lt _ _ (and_lt _ _ ha)) (by decide) fun i hi => by rw [Nat.testBit_and, Nat.testBit_and, test_lss _ _ _ ha hi, Nat.zero_testBit]; cases a.testBit i <;> cases c.testBit i <;> rfl
theorem pw4 (a c : Nat) (ha : a < 4294967296) (hc : c < 4294967296) : lss a c &&& lss c a = 0 :=
  word_ext _ _ (and_lt _ _ (lss_lt _ _ ha)) (by decide) fun i hi => by rw [Nat.testBit_and, test_lss _ _ _ hc hi, test_lss _ _ _ ha hi, Nat.zero_testBit]; cases a.testBit i <;> cases c.testBit i <;> rfl
theorem pw5 (a c : Nat) (ha : a < 4294967296) (hc : c < 4294967296) : a ||| lss c a = a ||| c :=
  word_ext _ _ (or_lt2 _ _ ha (lss_lt _ _ hc)) (or_lt2 _ _ ha hc) fun i hi => by rw [Nat.testBit_or, Nat.testBit_or, test_lss _ _ _ ha hi]; cases a.testBit i <;> cases c.testBit i <;> rfl

/-- What the law holds: s, t, both, one, other, none. -/
structure Pt (w wr : World) (a b c d g6 g7 g8 g9 : Nat) : Prop where
  s : Sb wr w.heap.size a b
  t : Sb wr (w.heap.size + 1) c d
  bo : Sb wr g6 (a &&& c) (b &&& d)
  on0 : wr.cell? ⟨g7, 0, none⟩ = some (.int .u32 (lss a c : Nat))
  on1 : wr.cell? ⟨g7, 1, none⟩ = some (.int .u32 (lss b d : Nat))
  ot0 : wr.cell? ⟨g8, 0, none⟩ = some (.int .u32 (lss c a : Nat))
  ot1 : wr.cell? ⟨g8, 1, none⟩ = some (.int .u32 (lss d b : Nat))
  no : Sb wr g9 0 0
  bel : Below w.heap.size w wr
theorem cell_later {W W1 : World} {g i : Nat} {v : Value} (h : W.cell? ⟨g, i, none⟩ = some v) (hb : Below W.heap.size W W1) : W1.cell? ⟨g, i, none⟩ = some v := (hb.cell (p := ⟨g, i, none⟩) (cell_lt h).1).trans h
theorem Pt.later {w wr w1 : World} {a b c d g6 g7 g8 g9 : Nat} (T : Pt w wr a b c d g6 g7 g8 g9) (hb : Below wr.heap.size wr w1) : Pt w w1 a b c d g6 g7 g8 g9 :=
  ⟨T.s.below hb T.s.lt, T.t.below hb T.t.lt, T.bo.below hb T.bo.lt, cell_later T.on0 hb, cell_later T.on1 hb, cell_later T.ot0 hb, cell_later T.ot1 hb, T.no.below hb T.no.lt, T.bel.trans (hb.mono T.bel.size)⟩
theorem Pt.cells {w wr : World} {a b c d g6 g7 g8 g9 : Nat} (T : Pt w wr a b c d g6 g7 g8 g9) :
    (wr.cell? ⟨w.heap.size, 0, none⟩ = some (.int .u32 a) ∧ wr.cell? ⟨w.heap.size, 1, none⟩ = some (.int .u32 b)) ∧ (wr.cell? ⟨w.heap.size + 1, 0, none⟩ = some (.int .u32 c) ∧ wr.cell? ⟨w.heap.size + 1, 1, none⟩ = some (.int .u32 d)) ∧ (wr.cell? ⟨g6, 0, none⟩ = some (.int .u32 (a &&& c : Nat)) ∧ wr.cell? ⟨g6, 1, none⟩ = some (.int .u32 (b &&& d : Nat))) ∧ (wr.cell? ⟨g9, 0, none⟩ = some (.int .u32 0) ∧ wr.cell? ⟨g9, 1, none⟩ = some (.int .u32 0)) :=
  ⟨T.s.cells, T.t.cells, T.bo.cells, T.no.cells⟩

theorem off_ne (v : World) (g i j : Nat) (x : Value) (hij : i ≠ j) : (v.setCell ⟨g, i, none⟩ x).cell? ⟨g, j, none⟩ = v.cell? ⟨g, j, none⟩ :=
  World.cell?_setCell_other (w := v) (a := ⟨g, i, none⟩) (b := ⟨g, j, none⟩) (v := x) (by simp [hij])
theorem four_a {v : World} {g h : Nat} {p q r s : Value} (hgh : h ≠ g) (h0 : (v.cell? ⟨g, 0, none⟩).isSome = true) : ((((v.setCell ⟨g, 0, none⟩ p).setCell ⟨g, 1, none⟩ q).setCell ⟨h, 0, none⟩ r).setCell ⟨h, 1, none⟩ s).cell? ⟨g, 0, none⟩ = some p := by
  rw [World.cell?_setCell_far _ _ _ _ hgh, World.cell?_setCell_far _ _ _ _ hgh, off_ne _ _ _ _ _ (by decide), World.cell?_setCell_same' _ _ _ h0]
theorem four_b {v : World} {g h : Nat} {p q r s : Value} (hgh : h ≠ g) (h0 : (v.cell? ⟨g, 1, none⟩).isSome = true) : ((((v.setCell ⟨g, 0, none⟩ p).setCell ⟨g, 1, none⟩ q).setCell ⟨h, 0, none⟩ r).setCell ⟨h, 1, none⟩ s).cell? ⟨g, 1, none⟩ = some q := by
  rw [World.cell?_setCell_far _ _ _ _ hgh, World.cell?_setCell_far _ _ _ _ hgh, World.cell?_setCell_same' _ _ _ (by rw [off_ne _ _ _ _ _ (by decide)]; exact h0)]
theorem four_c {v : World} {g h : Nat} {p q r s : Value} (hgh : g ≠ h) (h0 : (v.cell? ⟨h, 0, none⟩).isSome = true) : ((((v.setCell ⟨g, 0, none⟩ p).setCell ⟨g, 1, none⟩ q).setCell ⟨h, 0, none⟩ r).setCell ⟨h, 1, none⟩ s).cell? ⟨h, 0, none⟩ = some r := by
  rw [off_ne _ _ _ _ _ (by decide), World.cell?_setCell_same' _ _ _ (by rw [World.cell?_setCell_far _ _ _ _ hgh, World.cell?_setCell_far _ _ _ _ hgh]; exact h0)]
theorem four_d {v : World} {g h : Nat} {p q r s : Value} (hgh : g ≠ h) (h0 : (v.cell? ⟨h, 1, none⟩).isSome = true) : ((((v.setCell ⟨g, 0, none⟩ p).setCell ⟨g, 1, none⟩ q).setCell ⟨h, 0, none⟩ r).setCell ⟨h, 1, none⟩ s).cell? ⟨h, 1, none⟩ = some s := by
  rw [World.cell?_setCell_same' _ _ _ (by rw [off_ne _ _ _ _ _ (by decide), World.cell?_setCell_far _ _ _ _ hgh, World.cell?_setCell_far _ _ _ _ hgh]; exact h0)]
theorem bcell {W w1 : World} (hb : Below W.heap.size W w1) : (∀ b o, b < W.heap.size → w1.cell? ⟨b, o, none⟩ = W.cell? ⟨b, o, none⟩) ∧ (∀ b o, b < W.heap.size → w1.frozen? ⟨b, o, none⟩ = W.frozen? ⟨b, o, none⟩) :=
  ⟨fun b o h => hb.cell (p := ⟨b, o, none⟩) h, fun b o h => hb.frozen (p := ⟨b, o, none⟩) h⟩
theorem keepS {W v : World} (h : Below W.heap.size W v) (g i : Nat) (x : Value) (hg : W.heap.size ≤ g) : Below W.heap.size W (v.setCell ⟨g, i, none⟩ x) := h.setCell hg x
theorem keep1 {W w7 : World} (h : Below W.heap.size W w7) (x : Obj) : Below W.heap.size W (w7.alloc x) := h.alloc h.size x
theorem keep2 {W w7 : World} (h : Below W.heap.size W w7) (x y : Obj) : Below W.heap.size W ((w7.alloc x).alloc y) := keep1 (keep1 h x) y

set_option maxHeartbeats 8000000 in
theorem parts_walk (a b c d : Nat) (w : World) (ha : a < 4294967296) (hb : b < 4294967296) (hc : c < 4294967296) (hd : d < 4294967296) :
    Calls Tryd.prog 4 #[.agg #[.int .u32 a, .int .u32 b], .agg #[.int .u32 c, .int .u32 d]] w fun e w' => e = .returned (.bool true) ∧ Below w.heap.size w w' := by
  go_enter Tryd.func4, Tryd.ntmps4
  go_wp2_with fail
  refine (alive_any _).mono ?_
  rintro e w1 ⟨rfl, b1⟩
  have s1 : Sb w1 w.heap.size a b := ((Sb.new w a b).below ((Below.refl _ _).alloc (Nat.le_refl _) _) (by simp)).below b1 (by simp; omega)
  have t1 : Sb w1 (w.heap.size + 1) c d := by
    have := (Sb.new (w.alloc (.cells #[.int .u32 a, .int .u32 b] 24)) c d).below b1 (by simp)
    rwa [World.size_alloc] at this
  have B1 : Below w.heap.size w w1 := (((Below.refl _ w).alloc (Nat.le_refl _) _).alloc (by simp) _).trans (b1.mono (by simp; omega))
  clear b1
  obtain ⟨x0, x1⟩ := s1.cells
  obtain ⟨y0, y1⟩ := t1.cells
  go_wp2_with fail
  refine (andX a b c d _ ha hb hc hd).mono ?_
  rintro e w2 ⟨rfl, b2⟩
  obtain ⟨W, hW⟩ : ∃ W, W = w2.alloc (.cells #[.int .u32 (a &&& c : Nat), .int .u32 (b &&& d : Nat)] 24) := ⟨_, rfl⟩
  have s2 : Sb W w.heap.size a b := by rw [hW]; exact (s1.below b2 s1.lt).alloc _
  have t2 : Sb W (w.heap.size + 1) c d := by rw [hW]; exact (t1.below b2 t1.lt).alloc _
  have o2 : Sb W w2.heap.size (a &&& c) (b &&& d) := by rw [hW]; exact Sb.new w2 _ _
  have B2 : Below w.heap.size w W := by rw [hW]; exact (B1.trans (b2.mono B1.size)).alloc (B1.trans (b2.mono B1.size)).size _
  have HW := Lib.hid hW
  clear s1 t1 B1 b2 x0 x1 y0 y1 hW
  go_upto_region 3 with (fail)
  rw [← HW.out]
  clear HW
  generalize w2.heap.size = g6 at *
  have H1 := held s2
  have H2 := held t2
  go_cut [7, 8] (fun s7 s8 wx => ∃ g7 g8 : Nat, s7 = .pointer (some ⟨g7, 0, none⟩) ∧ s8 = .pointer (some ⟨g8, 0, none⟩) ∧ wx.cell? ⟨g7, 0, none⟩ = some (.int .u32 (lss a c : Nat)) ∧ wx.cell? ⟨g7, 1, none⟩ = some (.int .u32 (lss b d : Nat)) ∧ wx.cell? ⟨g8, 0, none⟩ = some (.int .u32 (lss c a : Nat)) ∧ wx.cell? ⟨g8, 1, none⟩ = some (.int .u32 (lss d b : Nat)) ∧ Below W.heap.size W wx)
  case first =>
    go_region_held3 (fun w' => Below W.heap.size W w')
      (repeat' (first | assumption | exact Below.refl _ _ | refine Below.drew ?_ | refine keep1 ?_ _ | refine keepS ?_ _ _ _ ?_ | exact Nat.le_refl _ | exact Below.size (by assumption) | exact Nat.le_succ_of_le (Below.size (by assumption)) | exact Nat.le_succ_of_le (Nat.le_refl _) | (simp; done) | (simp; omega)))
      (first
        | (go_at_call 16; ((with_reducible refine (lessX a b c d _ ha hb hc hd).mono ?_); rintro e w7 ⟨rfl, hb7⟩); have b7 : Below W.heap.size W w7 := Below.trans (by assumption) (hb7.mono (Below.size (by assumption))); obtain ⟨hcl7, hfr7⟩ := bcell hb7; have hz7 := hb7.size; (try simp at hz7); have hz8 := hz7; (try rw [Nat.succ_le_iff] at hz8); (try (have hW7 : W.heap.size < w7.heap.size := by omega)); (try (have hW8 : W.heap.size + 1 < w7.heap.size := by omega)); have hne7 : ∀ v : Nat, v < w7.heap.size → ¬ v = w7.heap.size := fun v h => Nat.ne_of_lt h; have hne8 : ∀ v : Nat, v < w7.heap.size → ¬ w7.heap.size = v := fun v h => Nat.ne_of_gt h)
        | (go_at_call 16; ((with_reducible refine (lessX c d a b _ hc hd ha hb).mono ?_); rintro e w7 ⟨rfl, hb7⟩); have b7 : Below W.heap.size W w7 := Below.trans (by assumption) (hb7.mono (Below.size (by assumption))); obtain ⟨hcl7, hfr7⟩ := bcell hb7; have hz7 := hb7.size; (try simp at hz7); have hz8 := hz7; (try rw [Nat.succ_le_iff] at hz8); (try (have hW7 : W.heap.size < w7.heap.size := by omega)); (try (have hW8 : W.heap.size + 1 < w7.heap.size := by omega)); have hne7 : ∀ v : Nat, v < w7.heap.size → ¬ v = w7.heap.size := fun v h => Nat.ne_of_lt h; have hne8 : ∀ v : Nat, v < w7.heap.size → ¬ w7.heap.size = v := fun v h => Nat.ne_of_gt h))
    all_goals (go_wp2_with fail; go_meet; refine ⟨_, _, rfl, rfl, ?_, ?_, ?_, ?_, ?_⟩)
    all_goals (first | (with_reducible assumption) | (simp; done) | (go_simp; done) | ((with_reducible refine four_a ?_ ?_); (· omega); (· go_simp; done)) | ((with_reducible refine four_b ?_ ?_); (· omega); (· go_simp; done)) | ((with_reducible refine four_c ?_ ?_); (· omega); (· go_simp; done)) | ((with_reducible refine four_d ?_ ?_); (· omega); (· go_simp; done)))
  case rest =>
    obtain ⟨g7, g8, rfl, rfl, on0, on1, ot0, ot1, bW⟩ := hcut
    have B0 := B2.trans (bW.mono B2.size)
    have oS := o2
    have pA := and_lt a c ha; have pB := and_lt b d hb
    have o1 := lss_lt a c ha; have o2 := lss_lt b d hb
    have q1 := lss_lt c a hc; have q2 := lss_lt d b hd
    have r1 := or_lt2 a c ha hc; have r2 := or_lt2 b d hb hd
    have C1 : Hid (∀ w, Calls Tryd.prog 15 #[.agg #[.int .u32 (a &&& c : Nat), .int .u32 (b &&& d : Nat)], .agg #[.int .u32 (lss a c : Nat), .int .u32 (lss b d : Nat)]] w (RS a b w)) := Lib.hid fun w => by
      have := orX (a &&& c) (b &&& d) (lss a c) (lss b d) w pA pB o1 o2
      rw [pw1 a c ha hc, pw1 b d hb hd] at this; exact this
    have C2 : Hid (∀ w, Calls Tryd.prog 15 #[.agg #[.int .u32 (a : Int), .int .u32 (b : Int)], .agg #[.int .u32 (lss c a : Nat), .int .u32 (lss d b : Nat)]] w (RS (a ||| c) (b ||| d) w)) := Lib.hid fun w => by
      have := orX a b (lss c a) (lss d b) w ha hb q1 q2
      rw [pw5 a c ha hc, pw5 b d hb hd] at this; exact this
    have C3 : Hid (∀ w, Calls Tryd.prog 17 #[.agg #[.int .u32 (a &&& c : Nat), .int .u32 (b &&& d : Nat)], .agg #[.int .u32 (lss a c : Nat), .int .u32 (lss b d : Nat)]] w (RS 0 0 w)) := Lib.hid fun w => by
      have := andX (a &&& c) (b &&& d) (lss a c) (lss b d) w pA pB o1 o2
      rw [pw2 a c ha hc, pw2 b d hb hd] at this; exact this
    have C4 : Hid (∀ w, Calls Tryd.prog 17 #[.agg #[.int .u32 (a &&& c : Nat), .int .u32 (b &&& d : Nat)], .agg #[.int .u32 (lss c a : Nat), .int .u32 (lss d b : Nat)]] w (RS 0 0 w)) := Lib.hid fun w => by
      have := andX (a &&& c) (b &&& d) (lss c a) (lss d b) w pA pB q1 q2
      rw [pw3 a c ha hc, pw3 b d hb hd] at this; exact this
    have C5 : Hid (∀ w, Calls Tryd.prog 17 #[.agg #[.int .u32 (lss a c : Nat), .int .u32 (lss b d : Nat)], .agg #[.int .u32 (lss c a : Nat), .int .u32 (lss d b : Nat)]] w (RS 0 0 w)) := Lib.hid fun w => by
      have := andX (lss a c) (lss b d) (lss c a) (lss d b) w o1 o2 q1 q2
      rw [pw4 a c ha hc, pw4 b d hb hd] at this; exact this
    have C6 : Hid (∀ w, Calls Tryd.prog 17 #[.agg #[.int .u32 (c : Int), .int .u32 (d : Int)], .agg #[.int .u32 (a : Int), .int .u32 (b : Int)]] w (RS (a &&& c) (b &&& d) w)) := Lib.hid fun w => by
      have := andX c d a b w hc hd ha hb
      rw [Nat.and_comm c a, Nat.and_comm d b] at this; exact this
    have C7 : Hid (∀ w, Calls Tryd.prog 15 #[.agg #[.int .u32 (c : Int), .int .u32 (d : Int)], .agg #[.int .u32 (a : Int), .int .u32 (b : Int)]] w (RS (a ||| c) (b ||| d) w)) := Lib.hid fun w => by
      have := orX c d a b w hc hd ha hb
      rw [Nat.or_comm c a, Nat.or_comm d b] at this; exact this
    have N1 := nOf_le _ _ r1 r2
    have E1 := nOf_two a b c d ha hb hc hd
    have E2 := nOf_less a b c d ha hb hc hd
    have E3 := nOf_less c d a b hc hd ha hb
    rw [Nat.and_comm c a, Nat.and_comm d b] at E3
    have hsum : nOf (a &&& c) (b &&& d) + nOf (lss a c) (lss b d) + nOf (lss c a) (lss d b) = nOf (a ||| c) (b ||| d) := by omega
    have hcmp : ((nOf (a &&& c) (b &&& d) : Int) + (nOf (lss a c) (lss b d) : Int) + (nOf (lss c a) (lss d b) : Int) == (nOf (a ||| c) (b ||| d) : Int)) = true := by rw [← hsum]; simp
    have k1 : (nOf (a &&& c) (b &&& d) : Int) + (nOf (lss a c) (lss b d) : Int) ≤ 1000 := by omega
    have k2 : (nOf (a &&& c) (b &&& d) : Int) + (nOf (lss a c) (lss b d) : Int) + (nOf (lss c a) (lss d b) : Int) ≤ 1000 := by omega
    clear E1 E2 E3 hsum
    have EQ := eqSelf
    have EQ0 : ∀ w, (Op.equalIn 10000 24 (.agg #[.int .u32 0, .int .u32 0]) (.agg #[.int .u32 0, .int .u32 0])).run Tryd.prog w = .ok true w := fun w => eqIn 0 0 0 0 w
    have T0 : Pt w (wc.alloc (.cells #[.int .u32 0, .int .u32 0] 24)) a b c d g6 g7 g8 wc.heap.size :=
      ⟨(s2.below bW s2.lt).alloc _, (t2.below bW t2.lt).alloc _, (oS.below bW oS.lt).alloc _, cell_later on0 ((Below.refl _ _).alloc (Nat.le_refl _) _), cell_later on1 ((Below.refl _ _).alloc (Nat.le_refl _) _), cell_later ot0 ((Below.refl _ _).alloc (Nat.le_refl _) _), cell_later ot1 ((Below.refl _ _).alloc (Nat.le_refl _) _), Sb.new _ _ _, B0.alloc B0.size _⟩
    clear on0 on1 ot0 ot1
    obtain ⟨V, hV⟩ : ∃ V, V = wc.alloc (.cells #[.int .u32 0, .int .u32 0] 24) := ⟨_, rfl⟩
    have HV := Lib.hid hV
    rw [← hV] at T0
    clear hV
    have H3 := held T0.s
    have H4 := held T0.t
    have H5 := held T0.bo
    have H6 := held T0.no
    have H7 : ∀ w', Below V.heap.size V w' → w'.cell? ⟨g7, 0, none⟩ = some (.int .u32 (lss a c : Nat)) ∧ w'.cell? ⟨g7, 1, none⟩ = some (.int .u32 (lss b d : Nat)) := fun w' hb => ⟨cell_later T0.on0 hb, cell_later T0.on1 hb⟩
    have H8 : ∀ w', Below V.heap.size V w' → w'.cell? ⟨g8, 0, none⟩ = some (.int .u32 (lss c a : Nat)) ∧ w'.cell? ⟨g8, 1, none⟩ = some (.int .u32 (lss d b : Nat)) := fun w' hb => ⟨cell_later T0.ot0 hb, cell_later T0.ot1 hb⟩
    clear H1 H2
    have y1 : IntKind.i64.wrap ((nOf (a &&& c) (b &&& d) : Int) + (nOf (lss a c) (lss b d) : Int)) = (nOf (a &&& c) (b &&& d) : Int) + (nOf (lss a c) (lss b d) : Int) := wrap_small _ (by omega) (by omega)
    have y2 : IntKind.i64.wrap ((nOf (a &&& c) (b &&& d) : Int) + (nOf (lss a c) (lss b d) : Int) + (nOf (lss c a) (lss d b) : Int)) = (nOf (a &&& c) (b &&& d) : Int) + (nOf (lss a c) (lss b d) : Int) + (nOf (lss c a) (lss d b) : Int) := wrap_small _ (by omega) (by omega)
    clear k1 k2 N1
    go_wp2_with fail
    rw [← HV.out]
    clear HV
    generalize wc.heap.size = g9 at *
    simp only [List.append]
    go_region_held3 (fun w' => Below V.heap.size V w')
      (first | assumption | exact (Below.refl _ _).drew)
      (first
        | (go_at_call 15; ((with_reducible refine (C1.out _).mono ?_); rintro e w7 ⟨rfl, hb7⟩); have b7 : Below V.heap.size V w7 := Below.trans (by assumption) (hb7.mono (Below.size (by assumption))))
        | (go_at_call 15; ((with_reducible refine (C2.out _).mono ?_); rintro e w7 ⟨rfl, hb7⟩); have b7 : Below V.heap.size V w7 := Below.trans (by assumption) (hb7.mono (Below.size (by assumption))))
        | (go_at_call 15; ((with_reducible refine (C7.out _).mono ?_); rintro e w7 ⟨rfl, hb7⟩); have b7 : Below V.heap.size V w7 := Below.trans (by assumption) (hb7.mono (Below.size (by assumption))))
        | (go_at_call 15; ((with_reducible refine (orX a b c d _ ha hb hc hd).mono ?_); rintro e w7 ⟨rfl, hb7⟩); have b7 : Below V.heap.size V w7 := Below.trans (by assumption) (hb7.mono (Below.size (by assumption))))
        | (go_at_call 17; ((with_reducible refine (C3.out _).mono ?_); rintro e w7 ⟨rfl, hb7⟩); have b7 : Below V.heap.size V w7 := Below.trans (by assumption) (hb7.mono (Below.size (by assumption))))
        | (go_at_call 17; ((with_reducible refine (C4.out _).mono ?_); rintro e w7 ⟨rfl, hb7⟩); have b7 : Below V.heap.size V w7 := Below.trans (by assumption) (hb7.mono (Below.size (by assumption))))
        | (go_at_call 17; ((with_reducible refine (C5.out _).mono ?_); rintro e w7 ⟨rfl, hb7⟩); have b7 : Below V.heap.size V w7 := Below.trans (by assumption) (hb7.mono (Below.size (by assumption))))
        | (go_at_call 17; ((with_reducible refine (C6.out _).mono ?_); rintro e w7 ⟨rfl, hb7⟩); have b7 : Below V.heap.size V w7 := Below.trans (by assumption) (hb7.mono (Below.size (by assumption))))
        | (go_at_call 18; ((with_reducible refine (lenX _ _ _ pA pB).mono ?_); rintro e w7 ⟨rfl, hb7⟩); have b7 : Below V.heap.size V w7 := Below.trans (by assumption) (hb7.mono (Below.size (by assumption))))
        | (go_at_call 18; ((with_reducible refine (lenX _ _ _ o1 o2).mono ?_); rintro e w7 ⟨rfl, hb7⟩); have b7 : Below V.heap.size V w7 := Below.trans (by assumption) (hb7.mono (Below.size (by assumption))))
        | (go_at_call 18; ((with_reducible refine (lenX _ _ _ q1 q2).mono ?_); rintro e w7 ⟨rfl, hb7⟩); have b7 : Below V.heap.size V w7 := Below.trans (by assumption) (hb7.mono (Below.size (by assumption))))
        | (go_at_call 18; ((with_reducible refine (lenX _ _ _ r1 r2).mono ?_); rintro e w7 ⟨rfl, hb7⟩); have b7 : Below V.heap.size V w7 := Below.trans (by assumption) (hb7.mono (Below.size (by assumption)))))
    go_wp2_with fail
    go_ret
    exact ⟨rfl, T0.bel.trans (b7.mono T0.bel.size)⟩
end Go.Proofs.YtljfnfaljadjdaaDoor
