/- Contracts in the form that a drawn region takes; FdsetCounts. -/
import Derived.IntWalk
import Derived.Test.YtljfnfaljadjdaaDoorY
namespace Go.Proofs.YtljfnfaljadjdaaDoor
open Go.RowKit
set_option linter.unusedSimpArgs false
set_option linter.unusedVariables false
set_option maxRecDepth 100000

/-- How many numbers. -/
def nOf (a b : Nat) : Nat := pc a + pc b
theorem nOf_le (a b : Nat) (ha : a < 4294967296) (hb : b < 4294967296) : nOf a b ≤ 64 := by
  have := pc_le a ha; have := pc_le b hb; unfold nOf; omega
theorem nOf_L (a b : Nat) (ha : a < 4294967296) (hb : b < 4294967296) : (L a b).length = nOf a b := L_length a b ha hb
theorem lenX (a b : Nat) (w : World) (ha : a < 4294967296) (hb : b < 4294967296) : Calls Tryd.prog 18 #[.agg #[.int .u32 a, .int .u32 b]] w fun e w' => e = .returned (.int .i64 (nOf a b : Nat)) ∧ Below w.heap.size w w' := len_any a b w ha hb
theorem orX (a b c d : Nat) (w : World) (ha : a < 4294967296) (hb : b < 4294967296) (hc : c < 4294967296) (hd : d < 4294967296) : Calls Tryd.prog 15 #[.agg #[.int .u32 a, .int .u32 b], .agg #[.int .u32 c, .int .u32 d]] w fun e w' => e = .returned (.agg #[.int .u32 (a ||| c : Nat), .int .u32 (b ||| d : Nat)]) ∧ Below w.heap.size w w' := or_any a b c d w ha hb hc hd
theorem andX (a b c d : Nat) (w : World) (ha : a < 4294967296) (hb : b < 4294967296) (hc : c < 4294967296) (hd : d < 4294967296) : Calls Tryd.prog 17 #[.agg #[.int .u32 a, .int .u32 b], .agg #[.int .u32 c, .int .u32 d]] w fun e w' => e = .returned (.agg #[.int .u32 (a &&& c : Nat), .int .u32 (b &&& d : Nat)]) ∧ Below w.heap.size w w' := and_any a b c d w ha hb hc hd
/-- Of a, what b has not. -/
def lss (a b : Nat) : Nat := a &&& (4294967295 - b)
theorem lessX (a b c d : Nat) (w : World) (ha : a < 4294967296) (hb : b < 4294967296) (hc : c < 4294967296) (hd : d < 4294967296) : Calls Tryd.prog 16 #[.agg #[.int .u32 a, .int .u32 b], .agg #[.int .u32 c, .int .u32 d]] w fun e w' => e = .returned (.agg #[.int .u32 (lss a c : Nat), .int .u32 (lss b d : Nat)]) ∧ Below w.heap.size w w' := less_any a b c d w ha hb hc hd

theorem cnt_two (p q : Nat → Bool) (k : Nat) : cnt (fun i => p i || q i) k + cnt (fun i => p i && q i) k = cnt p k + cnt q k := by
  unfold cnt
  induction k with
  | zero => rfl
  | succ k ih =>
    simp only [List.range_succ, List.filter_append, List.length_append, List.filter_cons, List.filter_nil]
    cases p k <;> cases q k <;> simp <;> omega
theorem cnt_less (p q : Nat → Bool) (k : Nat) : cnt (fun i => p i && !q i) k + cnt (fun i => p i && q i) k = cnt p k := by
  unfold cnt
  induction k with
  | zero => rfl
  | succ k ih =>
    simp only [List.range_succ, List.filter_append, List.length_append, List.filter_cons, List.filter_nil]
    cases p k <;> cases q k <;> simp <;> omega
theorem or_lt2 (a b : Nat) (ha : a < 4294967296) (hb : b < 4294967296) : a ||| b < 4294967296 := Nat.or_lt_two_pow (n := 32) ha hb
theorem lss_lt (a b : Nat) (ha : a < 4294967296) : lss a b < 4294967296 := and_lt _ _ ha
theorem pc_two (a b : Nat) (ha : a < 4294967296) (hb : b < 4294967296) : pc (a ||| b) + pc (a &&& b) = pc a + pc b := by
  rw [pc_cnt _ (or_lt2 _ _ ha hb), pc_cnt _ (and_lt _ _ ha), pc_cnt _ ha, pc_cnt _ hb, ← cnt_two a.testBit b.testBit]
  congr 1
  · exact cnt_congr _ _ _ (fun i _ => Nat.testBit_or ..)
  · exact cnt_congr _ _ _ (fun i _ => Nat.testBit_and ..)
theorem pc_less (a b : Nat) (ha : a < 4294967296) (hb : b < 4294967296) : pc (lss a b) + pc (a &&& b) = pc a := by
  rw [pc_cnt _ (lss_lt _ _ ha), pc_cnt _ (and_lt _ _ ha), pc_cnt _ ha, ← cnt_less a.testBit b.testBit]
  congr 1
  · refine cnt_congr _ _ _ (fun i hi => ?_)
    unfold lss
    rw [Nat.testBit_and, test_not _ _ hb hi]
  · exact cnt_congr _ _ _ (fun i _ => Nat.testBit_and ..)
theorem nOf_two (a b c d : Nat) (ha : a < 4294967296) (hb : b < 4294967296) (hc : c < 4294967296) (hd : d < 4294967296) : nOf (a ||| c) (b ||| d) + nOf (a &&& c) (b &&& d) = nOf a b + nOf c d := by
  have := pc_two a c ha hc; have := pc_two b d hb hd; unfold nOf; omega
theorem nOf_less (a b c d : Nat) (ha : a < 4294967296) (hb : b < 4294967296) (hc : c < 4294967296) (hd : d < 4294967296) : nOf (lss a c) (lss b d) + nOf (a &&& c) (b &&& d) = nOf a b := by
  have := pc_less a c ha hc; have := pc_less b d hb hd; unfold nOf; omega
theorem wrap_small (x : Int) (h0 : -1000 ≤ x) (h1 : x ≤ 1000) : IntKind.i64.wrap x = x := IntWalk.i64_in _ (by omega)

/-- A set in its box, whatever is made beside it. -/
theorem held {W : World} {g a b : Nat} (h : Sb W g a b) : ∀ w', Below W.heap.size W w' → w'.cell? ⟨g, 0, none⟩ = some (.int .u32 a) ∧ w'.cell? ⟨g, 1, none⟩ = some (.int .u32 b) := fun w' hb => (h.below hb h.lt).cells

attribute [local irreducible] L lst
set_option maxHeartbeats 4000000 in
theorem counts_walk (a b c d : Nat) (w : World) (ha : a < 4294967296) (hb : b < 4294967296) (hc : c < 4294967296) (hd : d < 4294967296) :
    Calls Tryd.prog 6 #[.agg #[.int .u32 a, .int .u32 b], .agg #[.int .u32 c, .int .u32 d]] w fun e w' => e = .returned (.bool true) ∧ Below w.heap.size w w' := by
  go_enter Tryd.func6, Tryd.ntmps6
  go_wp2_with fail
  refine (alive_any _).mono ?_
  rintro e w1 ⟨rfl, b1⟩
  have s1 : Sb w1 w.heap.size a b := ((Sb.new w a b).below ((Below.refl _ _).alloc (Nat.le_refl _) _) (by simp)).below b1 (by simp; omega)
  have t1 : Sb w1 (w.heap.size + 1) c d := by
    have := (Sb.new (w.alloc (.cells #[.int .u32 a, .int .u32 b] 24)) c d).below b1 (by simp)
    rwa [World.size_alloc] at this
  have B1 : Below w.heap.size w w1 := (((Below.refl _ w).alloc (Nat.le_refl _) _).alloc (by simp) _).trans (b1.mono (by simp; omega))
  clear b1
  obtain ⟨x0, x1⟩ := s1.cells
  go_wp2_with fail
  refine (All_any a b _ ha hb).mono ?_
  rintro e w2 ⟨A, cA, rfl, hcA, IA, b2⟩
  have s2 := s1.below b2 s1.lt
  have t2 := t1.below b2 t1.lt
  have B2 := B1.trans (b2.mono B1.size)
  clear s1 t1 B1 b2 x0 x1
  have hll : (L a b).length ≤ 64 := by unfold L; exact lst_len _ _
  have hn := nOf_L a b ha hb
  have HN := Lib.hid hn; clear hn
  have HTop := Lib.hid (top_list a b ha hb)
  by_cases h0 : 0 < (L a b).length
  · obtain ⟨bk, off, rfl, hbk, hcc⟩ := IA h0
    obtain ⟨k, hk⟩ : ∃ k, (L a b).length = k + 1 := ⟨(L a b).length - 1, by omega⟩
    have hck := hcc k (by omega)
    have hval : (L a b).getD k 0 = topN a b := by
      rw [HTop.out, List.getD_eq_getElem?_getD]
      unfold topL
      rw [List.getLast?_eq_getElem?, hk, Nat.add_sub_cancel, List.getElem?_eq_getElem (by omega)]
      rfl
    rw [hval] at hck
    clear hcc hval HTop IA
    rw [hk] at HN hcA h0 hll ⊢
    clear hk
    have TT : ∀ w', Calls Tryd.prog 22 #[.agg #[.int .u32 a, .int .u32 b]] w' fun e w'' => e = .returned (.int .i64 (topN a b)) ∧ Below w'.heap.size w' w'' := fun w' => top_any a b w' ha hb
    have HTT := Lib.hid TT; clear TT
    generalize topN a b = tv at *
    go_wp2_with fail
    have hkn : ((k : Nat) : Int) + 1 = ((nOf a b : Nat) : Int) := by have := HN.out; omega
    have N1 := nOf_le a b ha hb
    have N2 := nOf_le c d hc hd
    have N3 := nOf_le _ _ (or_lt2 a c ha hc) (or_lt2 b d hb hd)
    have N4 := nOf_le (a &&& c) (b &&& d) (and_lt _ _ ha) (and_lt _ _ hb)
    have N5 := nOf_le (lss a c) (lss b d) (lss_lt _ _ ha) (lss_lt _ _ hb)
    have E1 := nOf_two a b c d ha hb hc hd
    have E2 := nOf_less a b c d ha hb hc hd
    have p1 := or_lt2 a c ha hc
    have p2 := or_lt2 b d hb hd
    have p3 := and_lt a c ha
    have p4 := and_lt b d hb
    have p5 := lss_lt a c ha
    have p6 := lss_lt b d hb
    have H1 := held s2
    have H2 := held t2
    have q1 : IntKind.i64.wrap (((nOf (a ||| c) (b ||| d) : Nat) : Int) + ((nOf (a &&& c) (b &&& d) : Nat) : Int)) = ((nOf a b : Nat) : Int) + ((nOf c d : Nat) : Int) := by rw [wrap_small _ (by omega) (by omega)]; omega
    have q2 : IntKind.i64.wrap (((nOf a b : Nat) : Int) + ((nOf c d : Nat) : Int)) = ((nOf a b : Nat) : Int) + ((nOf c d : Nat) : Int) := by rw [wrap_small _ (by omega) (by omega)]
    have q3 : IntKind.i64.wrap (((nOf a b : Nat) : Int) - ((nOf (a &&& c) (b &&& d) : Nat) : Int)) = ((nOf (lss a c) (lss b d) : Nat) : Int) := by rw [wrap_small _ (by omega) (by omega)]; omega
    clear N1 N2 N3 N4 N5 E1 E2
    go_region_held3 (fun w' => Below w2.heap.size w2 w')
      (first | assumption | exact below_drewN (Below.refl _ _) _ | exact (Below.refl _ _).drew)
      (first
        | (go_at_call 15; refine (orX _ _ _ _ _ ha hb hc hd).mono ?_; rintro e w7 ⟨rfl, hb7⟩; have b7 : Below w2.heap.size w2 w7 := Below.trans (by assumption) (hb7.mono (Below.size (by assumption))))
        | (go_at_call 17; refine (andX _ _ _ _ _ ha hb hc hd).mono ?_; rintro e w7 ⟨rfl, hb7⟩; have b7 : Below w2.heap.size w2 w7 := Below.trans (by assumption) (hb7.mono (Below.size (by assumption))))
        | (go_at_call 16; refine (lessX _ _ _ _ _ ha hb hc hd).mono ?_; rintro e w7 ⟨rfl, hb7⟩; have b7 : Below w2.heap.size w2 w7 := Below.trans (by assumption) (hb7.mono (Below.size (by assumption))))
        | (go_at_call 18; refine (lenX _ _ _ (by assumption) (by assumption)).mono ?_; rintro e w7 ⟨rfl, hb7⟩; have b7 : Below w2.heap.size w2 w7 := Below.trans (by assumption) (hb7.mono (Below.size (by assumption))))
        | (go_at_call 22; refine (HTT.out _).mono ?_; rintro e w7 ⟨rfl, hb7⟩; have b7 : Below w2.heap.size w2 w7 := Below.trans (by assumption) (hb7.mono (Below.size (by assumption)))))
    go_wp2_with fail
    go_ret
    exact ⟨rfl, B2.trans (b7.mono B2.size)⟩
  · have hl0 : (L a b).length = 0 := by omega
    have htv : topN a b = -1 := by rw [HTop.out, List.eq_nil_of_length_eq_zero hl0]; rfl
    rw [hl0] at HN ⊢
    have TT : ∀ w', Calls Tryd.prog 22 #[.agg #[.int .u32 a, .int .u32 b]] w' fun e w'' => e = .returned (.int .i64 (-1)) ∧ Below w'.heap.size w' w'' := fun w' => by have := top_any a b w' ha hb; rw [htv] at this; exact this
    have HTT := Lib.hid TT; clear TT
    clear hl0 htv HTop hll IA h0 hcA
    go_wp2_with fail
    have N1 := nOf_le a b ha hb
    have N2 := nOf_le c d hc hd
    have N3 := nOf_le _ _ (or_lt2 a c ha hc) (or_lt2 b d hb hd)
    have N4 := nOf_le (a &&& c) (b &&& d) (and_lt _ _ ha) (and_lt _ _ hb)
    have N5 := nOf_le (lss a c) (lss b d) (lss_lt _ _ ha) (lss_lt _ _ hb)
    have E1 := nOf_two a b c d ha hb hc hd
    have E2 := nOf_less a b c d ha hb hc hd
    have p1 := or_lt2 a c ha hc
    have p2 := or_lt2 b d hb hd
    have p3 := and_lt a c ha
    have p4 := and_lt b d hb
    have p5 := lss_lt a c ha
    have p6 := lss_lt b d hb
    have H1 := held s2
    have H2 := held t2
    have q1 : IntKind.i64.wrap (((nOf (a ||| c) (b ||| d) : Nat) : Int) + ((nOf (a &&& c) (b &&& d) : Nat) : Int)) = ((nOf a b : Nat) : Int) + ((nOf c d : Nat) : Int) := by rw [wrap_small _ (by omega) (by omega)]; omega
    have q2 : IntKind.i64.wrap (((nOf a b : Nat) : Int) + ((nOf c d : Nat) : Int)) = ((nOf a b : Nat) : Int) + ((nOf c d : Nat) : Int) := by rw [wrap_small _ (by omega) (by omega)]
    have q3 : IntKind.i64.wrap (((nOf a b : Nat) : Int) - ((nOf (a &&& c) (b &&& d) : Nat) : Int)) = ((nOf (lss a c) (lss b d) : Nat) : Int) := by rw [wrap_small _ (by omega) (by omega)]; omega
    have hkn : ((nOf a b : Nat) : Int) = 0 := by have := HN.out; omega
    have hk0 : (0 == ((nOf a b : Nat) : Int)) = true := by rw [hkn]; rfl
    have hk1 : ((0 : Int) == ((nOf a b : Nat) : Int)) = true := by rw [hkn]; rfl
    clear hkn
    clear N1 N2 N3 N4 N5 E1 E2
    go_region_held3 (fun w' => Below w2.heap.size w2 w')
      (first | assumption | exact below_drewN (Below.refl _ _) _ | exact (Below.refl _ _).drew)
      (first
        | (go_at_call 15; refine (orX _ _ _ _ _ ha hb hc hd).mono ?_; rintro e w7 ⟨rfl, hb7⟩; have b7 : Below w2.heap.size w2 w7 := Below.trans (by assumption) (hb7.mono (Below.size (by assumption))))
        | (go_at_call 17; refine (andX _ _ _ _ _ ha hb hc hd).mono ?_; rintro e w7 ⟨rfl, hb7⟩; have b7 : Below w2.heap.size w2 w7 := Below.trans (by assumption) (hb7.mono (Below.size (by assumption))))
        | (go_at_call 16; refine (lessX _ _ _ _ _ ha hb hc hd).mono ?_; rintro e w7 ⟨rfl, hb7⟩; have b7 : Below w2.heap.size w2 w7 := Below.trans (by assumption) (hb7.mono (Below.size (by assumption))))
        | (go_at_call 18; refine (lenX _ _ _ (by assumption) (by assumption)).mono ?_; rintro e w7 ⟨rfl, hb7⟩; have b7 : Below w2.heap.size w2 w7 := Below.trans (by assumption) (hb7.mono (Below.size (by assumption))))
        | (go_at_call 22; refine (HTT.out _).mono ?_; rintro e w7 ⟨rfl, hb7⟩; have b7 : Below w2.heap.size w2 w7 := Below.trans (by assumption) (hb7.mono (Below.size (by assumption)))))
    go_wp2_with fail
    go_ret
    exact ⟨rfl, B2.trans (b7.mono B2.size)⟩
end Go.Proofs.YtljfnfaljadjdaaDoor
