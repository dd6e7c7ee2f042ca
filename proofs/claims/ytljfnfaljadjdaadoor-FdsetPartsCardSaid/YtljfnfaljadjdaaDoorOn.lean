/- The walk of FdsetOne. -/
import Derived.Test.YtljfnfaljadjdaaDoorZ
namespace Go.Proofs.YtljfnfaljadjdaaDoor
open Go.RowKit
set_option linter.unusedSimpArgs false
set_option linter.unusedVariables false
set_option maxRecDepth 100000

theorem dec_ne (i k : Nat) (h : i ≠ k) : decide ((i : Int) = ((k : Nat) : Int)) = false := by simp; omega
theorem wo_wo (a b k : Nat) (ha : a < 4294967296) (hb : b < 4294967296) (h : k < 64) : woA (woA a k) k = woA a k ∧ woB (woB b k) k = woB b k :=
  set_ext _ _ _ _ (wo_lt _ _ (wo_lt _ _ ha)) (wo_lt' _ _ (wo_lt' _ _ hb)) (wo_lt _ _ ha) (wo_lt' _ _ hb) fun i hi => by
    rw [has_wo _ _ _ _ h hi, has_wo _ _ _ _ h hi]; cases hasN a b i <;> cases decide ((i : Int) = (k : Int)) <;> rfl
theorem wi_wi (a b k : Nat) (ha : a < 4294967296) (hb : b < 4294967296) (h : k < 64) : wiA (wiA a k) k = wiA a k ∧ wiB (wiB b k) k = wiB b k :=
  set_ext _ _ _ _ (wi_lt _ _ (wi_lt _ _ ha h) h) (wi_lt' _ _ (wi_lt' _ _ hb h) h) (wi_lt _ _ ha h) (wi_lt' _ _ hb h) fun i hi => by
    rw [has_wi _ _ _ _ h hi, has_wi _ _ _ _ h hi]; cases hasN a b i <;> cases decide ((i : Int) = (k : Int)) <;> rfl
theorem wo_wi (a b k : Nat) (ha : a < 4294967296) (hb : b < 4294967296) (h : k < 64) : woA (wiA a k) k = woA a k ∧ woB (wiB b k) k = woB b k :=
  set_ext _ _ _ _ (wo_lt _ _ (wi_lt _ _ ha h)) (wo_lt' _ _ (wi_lt' _ _ hb h)) (wo_lt _ _ ha) (wo_lt' _ _ hb) fun i hi => by
    rw [has_wo _ _ _ _ h hi, has_wo _ _ _ _ h hi, has_wi _ _ _ _ h hi]; cases hasN a b i <;> cases decide ((i : Int) = (k : Int)) <;> rfl
theorem or_one (a b k : Nat) (ha : a < 4294967296) (hb : b < 4294967296) (h : k < 64) : a ||| wiA 0 k = wiA a k ∧ b ||| wiB 0 k = wiB b k :=
  set_ext _ _ _ _ (or_lt2 _ _ ha (wi_lt _ _ (by decide) h)) (or_lt2 _ _ hb (wi_lt' _ _ (by decide) h)) (wi_lt _ _ ha h) (wi_lt' _ _ hb h) fun i hi => by
    rw [has_or, has_wi _ _ _ _ h hi, has_wi _ _ _ _ h hi, has_zero]; cases hasN a b i <;> cases decide ((i : Int) = (k : Int)) <;> rfl
theorem less_one (a b k : Nat) (ha : a < 4294967296) (hb : b < 4294967296) (h : k < 64) : lss a (wiA 0 k) = woA a k ∧ lss b (wiB 0 k) = woB b k :=
  set_ext _ _ _ _ (lss_lt _ _ ha) (lss_lt _ _ hb) (wo_lt _ _ ha) (wo_lt' _ _ hb) fun i hi => by
    unfold lss
    rw [has_less _ _ _ _ _ (wi_lt _ _ (by decide) h) (wi_lt' _ _ (by decide) h) hi, has_wo _ _ _ _ h hi, has_wi _ _ _ _ h hi, has_zero]; cases hasN a b i <;> cases decide ((i : Int) = (k : Int)) <;> rfl

/-- A call that hands back a set, or a set and no error. -/
def RS (x y : Nat) (w : World) (e : Ending) (w' : World) : Prop := e = .returned (.agg #[.int .u32 (x : Int), .int .u32 (y : Int)]) ∧ Below w.heap.size w w'
def RSE (x y : Nat) (w : World) (e : Ending) (w' : World) : Prop := e = .returned (.tuple #[.agg #[.int .u32 (x : Int), .int .u32 (y : Int)], .int .i64 0]) ∧ Below w.heap.size w w'

/-- All that the law's calls answer. -/
structure One (a b mA mB lA lB oA oB k : Nat) : Prop where
  m1 : mA < 4294967296
  m2 : mB < 4294967296
  l1 : lA < 4294967296
  l2 : lB < 4294967296
  o1 : oA < 4294967296
  o2 : oB < 4294967296
  c1 : ∀ w, Calls Tryd.prog 11 #[.agg #[.int .u32 a, .int .u32 b], .int .i64 k] w (RSE mA mB w)
  c2 : ∀ w, Calls Tryd.prog 11 #[.agg #[.int .u32 mA, .int .u32 mB], .int .i64 k] w (RSE mA mB w)
  c3 : ∀ w, Calls Tryd.prog 12 #[.agg #[.int .u32 a, .int .u32 b], .int .i64 k] w (RS lA lB w)
  c4 : ∀ w A, Ints .i64 w A [(k : Int)] → Calls Tryd.prog 13 #[.slice A 1 1] w (RSE oA oB w)
  c5 : ∀ w, Calls Tryd.prog 14 #[.agg #[.int .u32 mA, .int .u32 mB], .int .i64 k] w fun e w' => e = .returned (.bool true) ∧ Below w.heap.size w w'
  c6 : ∀ w, Calls Tryd.prog 14 #[.agg #[.int .u32 lA, .int .u32 lB], .int .i64 k] w fun e w' => e = .returned (.bool false) ∧ Below w.heap.size w w'
  c7 : ∀ w, Calls Tryd.prog 12 #[.agg #[.int .u32 lA, .int .u32 lB], .int .i64 k] w (RS lA lB w)
  c8 : ∀ w, Calls Tryd.prog 15 #[.agg #[.int .u32 a, .int .u32 b], .agg #[.int .u32 oA, .int .u32 oB]] w (RS mA mB w)
  c9 : ∀ w, Calls Tryd.prog 16 #[.agg #[.int .u32 a, .int .u32 b], .agg #[.int .u32 oA, .int .u32 oB]] w (RS lA lB w)
  c10 : ∀ w, Calls Tryd.prog 12 #[.agg #[.int .u32 mA, .int .u32 mB], .int .i64 k] w (RS lA lB w)
  h1 : ∀ i : Nat, i < 64 → i ≠ k → hasZ mA mB (i : Int) = hasZ a b (i : Int)
  h2 : ∀ i : Nat, i < 64 → i ≠ k → hasZ lA lB (i : Int) = hasZ a b (i : Int)
theorem hasZ_nat (a b i : Nat) (h : i < 64) : hasZ a b (i : Int) = hasN a b i := by unfold hasZ; rw [if_pos (by omega)]; rfl
theorem one_all (a b k : Nat) (ha : a < 4294967296) (hb : b < 4294967296) (h : k < 64) : One a b (wiA a k) (wiB b k) (woA a k) (woB b k) (wiA 0 k) (wiB 0 k) k where
  m1 := wi_lt _ _ ha h
  m2 := wi_lt' _ _ hb h
  l1 := wo_lt _ _ ha
  l2 := wo_lt' _ _ hb
  o1 := wi_lt _ _ (by decide) h
  o2 := wi_lt' _ _ (by decide) h
  c1 := fun w => with_yes a b (k : Int) w ha hb (by omega) (by omega)
  c2 := fun w => by
    have := with_yes (wiA a k) (wiB b k) (k : Int) w (wi_lt _ _ ha h) (wi_lt' _ _ hb h) (by omega) (by omega)
    rw [Int.toNat_natCast, (wi_wi a b k ha hb h).1, (wi_wi a b k ha hb h).2] at this
    exact this
  c3 := fun w => without_yes a b (k : Int) w ha hb (by omega) (by omega)
  c4 := fun w A hI => by
    have := fof_ok A 1 [(k : Int)] w hI (by simp) (by simp) (by simp; omega)
    exact this
  c5 := fun w => by
    have := has_any (wiA a k) (wiB b k) (k : Int) w (wi_lt _ _ ha h) (wi_lt' _ _ hb h)
    rw [hasZ_nat _ _ _ h, has_wi _ _ _ _ h h] at this
    simpa using this
  c6 := fun w => by
    have := has_any (woA a k) (woB b k) (k : Int) w (wo_lt _ _ ha) (wo_lt' _ _ hb)
    rw [hasZ_nat _ _ _ h, has_wo _ _ _ _ h h] at this
    simpa using this
  c7 := fun w => by
    have := without_yes (woA a k) (woB b k) (k : Int) w (wo_lt _ _ ha) (wo_lt' _ _ hb) (by omega) (by omega)
    rw [Int.toNat_natCast, (wo_wo a b k ha hb h).1, (wo_wo a b k ha hb h).2] at this
    exact this
  c8 := fun w => by
    have := orX a b (wiA 0 k) (wiB 0 k) w ha hb (wi_lt _ _ (by decide) h) (wi_lt' _ _ (by decide) h)
    rw [(or_one a b k ha hb h).1, (or_one a b k ha hb h).2] at this
    exact this
  c9 := fun w => by
    have := lessX a b (wiA 0 k) (wiB 0 k) w ha hb (wi_lt _ _ (by decide) h) (wi_lt' _ _ (by decide) h)
    rw [(less_one a b k ha hb h).1, (less_one a b k ha hb h).2] at this
    exact this
  c10 := fun w => by
    have := without_yes (wiA a k) (wiB b k) (k : Int) w (wi_lt _ _ ha h) (wi_lt' _ _ hb h) (by omega) (by omega)
    rw [Int.toNat_natCast, (wo_wi a b k ha hb h).1, (wo_wi a b k ha hb h).2] at this
    exact this
  h1 := fun i hi hne => by rw [hasZ_nat _ _ _ hi, hasZ_nat _ _ _ hi, has_wi _ _ _ _ h hi, dec_ne i k hne, Bool.or_false]
  h2 := fun i hi hne => by rw [hasZ_nat _ _ _ hi, hasZ_nat _ _ _ hi, has_wo _ _ _ _ h hi, dec_ne i k hne, Bool.not_false, Bool.and_true]

/-- What the law holds. -/
structure On (w wr : World) (a b mA mB lA lB oA oB g7 g9 g11 g12 : Nat) : Prop where
  s : Sb wr w.heap.size a b
  m : Sb wr g7 mA mB
  t : Sb wr g9 mA mB
  l : Sb wr g11 lA lB
  o : Sb wr g12 oA oB
  bel : Below w.heap.size w wr
theorem On.later {w wr w1 : World} {a b mA mB lA lB oA oB g7 g9 g11 g12 : Nat} (T : On w wr a b mA mB lA lB oA oB g7 g9 g11 g12) (hb : Below wr.heap.size wr w1) : On w w1 a b mA mB lA lB oA oB g7 g9 g11 g12 :=
  ⟨T.s.below hb T.s.lt, T.m.below hb T.m.lt, T.t.below hb T.t.lt, T.l.below hb T.l.lt, T.o.below hb T.o.lt, T.bel.trans (hb.mono T.bel.size)⟩

theorem Sb.alloc {w : World} {g a b : Nat} (h : Sb w g a b) (o : Obj) : Sb (w.alloc o) g a b := h.below ((Below.refl _ _).alloc (Nat.le_refl _) _) h.lt
theorem one_int (w : World) (k : Nat) : Ints .i64 (w.alloc (.cells #[.int .i64 (k : Int)] 3)) (some ⟨w.heap.size, 0, none⟩) [(k : Int)] := by
  intro _
  refine ⟨w.heap.size, 0, rfl, by simp, fun i hi => ?_⟩
  obtain rfl : i = 0 := by simp at hi; omega
  simp
theorem eqSelf (x y : Nat) (w : World) : (Op.equalIn 10000 24 (.agg #[.int .u32 (x : Int), .int .u32 (y : Int)]) (.agg #[.int .u32 (x : Int), .int .u32 (y : Int)])).run Tryd.prog w = .ok true w := by rw [eqIn]; simp

set_option maxHeartbeats 4000000 in
theorem one_walk (a b mA mB lA lB oA oB k : Nat) (fd : Int) (w : World) (ha : a < 4294967296) (hb : b < 4294967296) (hk : k < 64) (h0 : 0 ≤ fd) (h1 : fd ≤ 255) (hq : fd % 64 = (k : Int)) (C : One a b mA mB lA lB oA oB k) :
    Calls Tryd.prog 3 #[.agg #[.int .u32 a, .int .u32 b], .int .u8 fd] w fun e w' => e = .returned (.bool true) ∧ Below w.heap.size w w' := by
  have m1 := C.m1; have m2 := C.m2; have l1 := C.l1; have l2 := C.l2; have o1 := C.o1; have o2 := C.o2
  go_enter Tryd.func3, Tryd.ntmps3
  go_wp2_with fail
  refine (alive_any _).mono ?_
  rintro e w1 ⟨rfl, b1⟩
  have s1 : Sb w1 w.heap.size a b := (Sb.new w a b).below b1 (by simp)
  have B1 : Below w.heap.size w w1 := ((Below.refl _ w).alloc (Nat.le_refl _) _).trans (b1.mono (by simp))
  clear b1
  obtain ⟨x0, x1⟩ := s1.cells
  go_wp2_with fail
  refine (C.c1 _).mono ?_
  rintro e w2 ⟨rfl, b2⟩
  have s2 := (s1.below b2 s1.lt).alloc (.cells #[.int .u32 mA, .int .u32 mB] 24)
  have m2' := Sb.new w2 mA mB
  have B2 := (B1.trans (b2.mono B1.size)).alloc (B1.trans (b2.mono B1.size)).size (.cells #[.int .u32 mA, .int .u32 mB] 24)
  clear s1 B1 b2 x0 x1
  obtain ⟨x0, x1⟩ := m2'.cells
  go_wp2_with fail
  refine (C.c2 _).mono ?_
  rintro e w4 ⟨rfl, b4⟩
  have s4 := (s2.below b4 s2.lt).alloc (.cells #[.int .u32 mA, .int .u32 mB] 24)
  have m4 := (m2'.below b4 m2'.lt).alloc (.cells #[.int .u32 mA, .int .u32 mB] 24)
  have t4 := Sb.new w4 mA mB
  have B4 := (B2.trans (b4.mono B2.size)).alloc (B2.trans (b4.mono B2.size)).size (.cells #[.int .u32 mA, .int .u32 mB] 24)
  clear s2 m2' B2 b4 x0 x1
  obtain ⟨x0, x1⟩ := s4.cells
  go_wp2_with fail
  refine (C.c3 _).mono ?_
  rintro e w6 ⟨rfl, b6⟩
  have s6 := (s4.below b6 s4.lt).alloc (.cells #[.int .u32 lA, .int .u32 lB] 24)
  have m6 := (m4.below b6 m4.lt).alloc (.cells #[.int .u32 lA, .int .u32 lB] 24)
  have t6 := (t4.below b6 t4.lt).alloc (.cells #[.int .u32 lA, .int .u32 lB] 24)
  have l6 := Sb.new w6 lA lB
  have B6 := (B4.trans (b6.mono B4.size)).alloc (B4.trans (b6.mono B4.size)).size (.cells #[.int .u32 lA, .int .u32 lB] 24)
  clear s4 m4 t4 B4 b6 x0 x1
  go_wp2_with fail
  have hI1 := one_int (w6.alloc (.cells #[.int .u32 lA, .int .u32 lB] 24)) k
  rw [World.size_alloc] at hI1
  refine (C.c4 _ _ hI1).mono ?_
  clear hI1
  rintro e w7 ⟨rfl, b7⟩
  have T7 : On w (w7.alloc (.cells #[.int .u32 oA, .int .u32 oB] 24)) a b mA mB lA lB oA oB w2.heap.size w4.heap.size w6.heap.size w7.heap.size :=
    ⟨((s6.alloc _).below b7 (s6.alloc _).lt).alloc _, ((m6.alloc _).below b7 (m6.alloc _).lt).alloc _, ((t6.alloc _).below b7 (t6.alloc _).lt).alloc _, ((l6.alloc _).below b7 (l6.alloc _).lt).alloc _, Sb.new w7 oA oB,
      (((B6.alloc B6.size _).trans (b7.mono (B6.alloc B6.size _).size))).alloc (((B6.alloc B6.size _).trans (b7.mono (B6.alloc B6.size _).size))).size _⟩
  clear s6 m6 t6 l6 B6 b7
  generalize w2.heap.size = g7 at *
  generalize w4.heap.size = g9 at *
  generalize w6.heap.size = g11 at *
  obtain ⟨x0, x1⟩ := T7.m.cells
  go_wp2_with fail
  refine (C.c5 _).mono ?_
  rintro e w8 ⟨rfl, b8⟩
  have T8 := T7.later b8
  clear T7 b8 x0 x1
  generalize w7.heap.size = g12 at *
  obtain ⟨x0, x1⟩ := T8.l.cells
  go_wp2_with fail
  refine (C.c6 _).mono ?_
  rintro e w9 ⟨rfl, b9⟩
  have T9 := T8.later b9
  clear T8 b9 x0 x1
  go_wp2_with fail
  go_loopw [14] (fun i wr => ∃ j : Nat, j ≤ 64 ∧ i = .int .i64 j ∧ On w wr a b mA mB lA lB oA oB g7 g9 g11 g12) (fun i _ => 64 - (intOf i).toNat)
  case atStart => exact ⟨0, by omega, rfl, T9⟩
  case round =>
    obtain ⟨j, hj, rfl, T⟩ := hrel
    clear T9
    by_cases hlt : j < 64
    · have H1 := held T.s
      have H2 := held T.m
      have H3 := held T.l
      by_cases hjk : j = k
      · subst hjk
        have hne : ((j : Int) != (j : Int)) = false := by simp
        go_wp2_with fail
        go_quiet (fail)
        go_wp2_with fail
        go_roundw
        case rel => exact ⟨j + 1, by omega, by go_num, T.later (below_drewN (Below.refl _ _) _)⟩
        case measure => simp [intOf]; omega
      · have e1 := C.h1 j hlt hjk
        have e2 := C.h2 j hlt hjk
        have hne : ((j : Int) != (k : Int)) = true := by simp; omega
        have E1 := Lib.hid e1
        have E2 := Lib.hid e2
        clear hjk e1 e2
        go_wp2_with fail
        go_region_held3 (fun w' => Below wr.heap.size wr w')
          (first | assumption | exact (Below.refl _ _).drew)
          (first
            | (go_at_call 14; refine (has_any _ _ _ _ (by assumption) (by assumption)).mono ?_; rintro e w7 ⟨rfl, hb7⟩; (try rw [E1.out]); (try rw [E2.out]); have b7 : Below wr.heap.size wr w7 := Below.trans (by assumption) (hb7.mono (Below.size (by assumption)))))
        go_wp2_with fail
        go_roundw
        case rel => exact ⟨j + 1, by omega, by go_num, T.later (by assumption)⟩
        case measure => simp [intOf]; omega
    · have H1 := held T.s
      have H2 := held T.m
      have H3 := held T.l
      have H4 := held T.t
      have H5 := held T.o
      have EQ := eqSelf
      go_wp2_with fail
      go_region_held3 (fun w' => Below wr.heap.size wr w')
        (first | assumption | exact (Below.refl _ _).drew)
        (first
          | (go_at_call 12; ((with_reducible refine (C.c7 _).mono ?_); rintro e w7 ⟨rfl, hb7⟩); have b7 : Below wr.heap.size wr w7 := Below.trans (by assumption) (hb7.mono (Below.size (by assumption))))
          | (go_at_call 12; ((with_reducible refine (C.c10 _).mono ?_); rintro e w7 ⟨rfl, hb7⟩); have b7 : Below wr.heap.size wr w7 := Below.trans (by assumption) (hb7.mono (Below.size (by assumption))))
          | (go_at_call 15; refine (C.c8 _).mono ?_; rintro e w7 ⟨rfl, hb7⟩; have b7 : Below wr.heap.size wr w7 := Below.trans (by assumption) (hb7.mono (Below.size (by assumption))))
          | (go_at_call 16; refine (C.c9 _).mono ?_; rintro e w7 ⟨rfl, hb7⟩; have b7 : Below wr.heap.size wr w7 := Below.trans (by assumption) (hb7.mono (Below.size (by assumption)))))
      go_wp2_with fail
      go_ret
      exact ⟨rfl, T.bel.trans (Below.mono (by assumption) T.bel.size)⟩
end Go.Proofs.YtljfnfaljadjdaaDoor
