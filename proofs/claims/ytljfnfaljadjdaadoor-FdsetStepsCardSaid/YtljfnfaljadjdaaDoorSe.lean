/- The walk of FdsetSteps. -/
import Derived.Test.YtljfnfaljadjdaaDoorOn
namespace Go.Proofs.YtljfnfaljadjdaaDoor
open Go.RowKit
set_option linter.unusedSimpArgs false
set_option linter.unusedVariables false
set_option maxRecDepth 100000

theorem L_sorted (a b : Nat) : (L a b).Pairwise (· < ·) := by
  unfold L lst
  rw [List.pairwise_map]
  exact (List.pairwise_lt_range.filter _).imp (fun h => by omega)
/-- Where the steps stand: all ahead of k are below fr, the others are not. -/
structure At (l : List Int) (k : Nat) (fr : Int) : Prop where
  lo : ∀ y ∈ l.take k, y < fr
  hi : ∀ y ∈ l.drop k, fr ≤ y
theorem At.next {l : List Int} {k : Nat} {fr : Int} (h : At l k fr) (hk : k < l.length) : nextOf l fr = some l[k] ∧ fr ≤ l[k] := by
  have hx : fr ≤ l[k] := h.hi _ (by have := List.getElem_mem (l := l.drop k) (n := 0) (by rw [List.length_drop]; omega); simpa using this)
  refine ⟨next_pre l (l.take k) l[k] fr ?_ h.lo hx, hx⟩
  rw [← List.take_succ_eq_append_getElem hk]
  exact List.take_prefix _ _
theorem At.step {l : List Int} {k : Nat} {fr : Int} (h : At l k fr) (hs : l.Pairwise (· < ·)) (hk : k < l.length) : At l (k + 1) (l[k] + 1) := by
  have hx := (h.next hk).2
  constructor
  · intro y hy
    rw [List.take_succ_eq_append_getElem hk] at hy
    rcases List.mem_append.1 hy with hy | hy
    · have := h.lo y hy; omega
    · rw [List.mem_singleton.1 hy]; omega
  · intro y hy
    obtain ⟨j, hj, rfl⟩ := List.mem_iff_getElem.1 hy
    rw [List.getElem_drop]
    have := List.pairwise_iff_getElem.1 hs k (k + 1 + j) hk (by rw [List.length_drop] at hj; omega) (by omega)
    omega
theorem At.none {l : List Int} {fr : Int} (h : At l l.length fr) : nextOf l fr = Option.none := next_none l fr (fun y hy => h.lo y (by rw [List.take_length]; exact hy))
theorem L_range (a b : Nat) (y : Int) (h : y ∈ L a b) : 0 ≤ y ∧ y < 64 ∧ hasZ a b y = true := by
  unfold L at h
  obtain ⟨n, hn, hp, rfl⟩ := (mem_lst _ _ _).1 h
  exact ⟨by omega, by omega, by rw [hasZ_nat _ _ _ hn]; exact hp⟩
theorem low_high (a b c d : Nat) (n : Int) (ha : a < 4294967296) (hb : b < 4294967296) (h : Cuts a b n (L a b) c d) : c ||| lss a c = a ∧ d ||| lss b d = b :=
  set_ext _ _ _ _ (or_lt2 _ _ h.hc (lss_lt _ _ ha)) (or_lt2 _ _ h.hd (lss_lt _ _ hb)) ha hb fun i hi => by
    unfold lss
    rw [has_or, has_less _ _ _ _ _ h.hc h.hd hi, h.all i hi]
    cases hasN a b i <;> cases decide ((i : Int) < n) <;> rfl
theorem low_all (a b c d : Nat) (n : Int) (h : Cuts a b n (L a b) c d) : ∀ y ∈ L c d, y < n := by
  intro y hy
  rw [h.L] at hy
  unfold belowOf at hy
  have := (List.mem_filter.1 hy).2
  simpa using this
theorem high_all (a b c d : Nat) (n : Int) (h : Cuts a b n (L a b) c d) : ∀ y ∈ L (lss a c) (lss b d), n ≤ y := by
  intro y hy
  unfold L at hy
  obtain ⟨m, hm, hp, rfl⟩ := (mem_lst _ _ _).1 hy
  unfold lss at hp
  rw [has_less _ _ _ _ _ h.hc h.hd hm, h.all m hm] at hp
  by_cases hlt : (m : Int) < n
  · rw [decide_eq_true hlt] at hp
    cases hasN a b m <;> simp at hp
  · omega

attribute [local irreducible] L lst

/-- What the law holds. -/
structure Sp (w wr : World) (a b : Nat) (A : Option Addr) : Prop where
  s : Sb wr w.heap.size a b
  x : Ints .i64 wr A (L a b)
  bel : Below w.heap.size w wr
theorem Sp.later {w wr w1 : World} {a b : Nat} {A : Option Addr} (T : Sp w wr a b A) (hb : Below wr.heap.size wr w1) : Sp w w1 a b A :=
  ⟨T.s.below hb T.s.lt, T.x.below hb, T.bel.trans (hb.mono T.bel.size)⟩
structure Sq (w wr : World) (a b c d g h : Nat) : Prop where
  s : Sb wr w.heap.size a b
  lo : Sb wr g c d
  hi : Sb wr h (lss a c) (lss b d)
  bel : Below w.heap.size w wr
theorem Sq.later {w wr w1 : World} {a b c d g h : Nat} (T : Sq w wr a b c d g h) (hb : Below wr.heap.size wr w1) : Sq w w1 a b c d g h :=
  ⟨T.s.below hb T.s.lt, T.lo.below hb T.lo.lt, T.hi.below hb T.hi.lt, T.bel.trans (hb.mono T.bel.size)⟩

set_option maxHeartbeats 8000000 in
theorem steps_walk (a b : Nat) (n : Int) (w : World) (ha : a < 4294967296) (hb : b < 4294967296) :
    Calls Tryd.prog 5 #[.agg #[.int .u32 a, .int .u32 b], .int .i64 n] w fun e w' => e = .returned (.bool true) ∧ Below w.heap.size w w' := by
  go_enter Tryd.func5, Tryd.ntmps5
  go_wp2_with fail
  refine (alive_any _).mono ?_
  rintro e w1 ⟨rfl, b1⟩
  have s1 : Sb w1 w.heap.size a b := (Sb.new w a b).below b1 (by simp)
  have B1 : Below w.heap.size w w1 := ((Below.refl _ w).alloc (Nat.le_refl _) _).trans (b1.mono (by simp))
  clear b1
  obtain ⟨x0, x1⟩ := s1.cells
  go_wp2_with fail
  refine (All_any a b _ ha hb).mono ?_
  rintro e w2 ⟨A, cA, rfl, hcA, IA, b2⟩
  have T2 : Sp w w2 a b A := ⟨s1.below b2 s1.lt, IA, B1.trans (b2.mono B1.size)⟩
  clear s1 B1 b2 x0 x1 IA
  have hll : (L a b).length ≤ 64 := by unfold L; exact lst_len _ _
  have HS := Lib.hid (L_sorted a b)
  have HR := Lib.hid (L_range a b)
  have hn := nOf_L a b ha hb
  have HN := Lib.hid hn; clear hn
  have A0 : At (L a b) 0 (-1099511627776) := ⟨by simp, fun y hy => by have := HR.out y (List.mem_of_mem_drop hy); omega⟩
  go_wp2_with fail
  go_loopw [7, 24] (fun f i wr => ∃ (k : Nat) (fr : Int), k ≤ (L a b).length ∧ i = .int .i64 k ∧ f = .int .i64 fr ∧ -1099511627776 ≤ fr ∧ fr ≤ 64 ∧ At (L a b) k fr ∧ Sp w wr a b A) (fun _ i _ => (L a b).length - (intOf i).toNat)
  case atStart => exact ⟨0, _, by omega, rfl, rfl, by omega, by omega, A0, T2⟩
  case round =>
    obtain ⟨k, fr, hk, rfl, rfl, f0, f1, hat, T⟩ := hrel
    clear T2 A0
    obtain ⟨x0, x1⟩ := T.s.cells
    by_cases hlt : k < (L a b).length
    · obtain ⟨hnx, hge⟩ := hat.next hlt
      have hat2 := hat.step HS.out hlt
      obtain ⟨r0, r1, r2⟩ := HR.out _ (List.getElem_mem hlt)
      have HNX := Lib.hid hnx
      have HHZ := Lib.hid r2
      have HAT := Lib.hid hat2
      clear hnx r2 hat2 hat
      go_wp2_with fail
      refine (next_any a b fr _ ha hb).mono ?_
      rintro e w3 ⟨he, b3⟩
      rw [HNX.out] at he
      subst he
      have T3 := T.later b3
      clear T b3 x0 x1
      obtain ⟨bk, off, rfl, hbk, hcc⟩ := T3.x (by omega)
      have hck := hcc k hlt
      clear hcc
      rw [getD_get _ k hlt] at hck
      generalize (L a b)[k] = x at *
      simp only [Option.getD_some, Option.isSome_some]
      obtain ⟨x0, x1⟩ := T3.s.cells
      clear HNX
      go_wp2_with fail
      refine (has_any a b x _ ha hb).mono ?_
      rintro e w4 ⟨he, b4⟩
      rw [HHZ.out] at he
      subst he
      have T4 := T3.later b4
      clear T3 b4 x0 x1 hck
      go_wp2_with fail
      go_roundw
      case rel => exact ⟨k + 1, x + 1, by omega, by go_num, rfl, by omega, by omega, HAT.out, T4⟩
      case measure => simp [intOf]; omega
    · obtain rfl : k = (L a b).length := by omega
      have HNX := Lib.hid hat.none
      clear hat
      go_wp2_with fail
      refine (next_any a b fr _ ha hb).mono ?_
      rintro e w3 ⟨he, b3⟩
      rw [HNX.out] at he
      subst he
      have T3 := T.later b3
      clear T b3 x0 x1 HNX
      obtain ⟨x0, x1⟩ := T3.s.cells
      simp only [Option.getD_none, Option.isSome_none]
      go_wp2_with fail
      refine (below_any a b n _ ha hb).mono ?_
      rintro e w4 ⟨c, d, rfl, hC, b4⟩
      have s4 := (T3.s.below b4 T3.s.lt).alloc (.cells #[.int .u32 c, .int .u32 d] 24)
      have l4 := Sb.new w4 c d
      have B4 := (T3.bel.trans (b4.mono T3.bel.size)).alloc (T3.bel.trans (b4.mono T3.bel.size)).size (.cells #[.int .u32 c, .int .u32 d] 24)
      clear T3 b4 x0 x1
      have hc := hC.hc
      have hd := hC.hd
      have HLo := Lib.hid (low_all a b c d n hC)
      have HHi := Lib.hid (high_all a b c d n hC)
      have HE := Lib.hid (low_high a b c d n ha hb hC)
      clear hC
      simp only [sv]
      obtain ⟨x0, x1⟩ := s4.cells
      obtain ⟨y0, y1⟩ := l4.cells
      go_wp2_with fail
      refine (lessX a b c d _ ha hb hc hd).mono ?_
      rintro e w5 ⟨rfl, b5⟩
      have T5 : Sq w (w5.alloc (.cells #[.int .u32 (lss a c : Nat), .int .u32 (lss b d : Nat)] 24)) a b c d w4.heap.size w5.heap.size :=
        ⟨(s4.below b5 s4.lt).alloc _, (l4.below b5 l4.lt).alloc _, Sb.new w5 _ _, (B4.trans (b5.mono B4.size)).alloc (B4.trans (b5.mono B4.size)).size _⟩
      clear s4 l4 B4 b5 x0 x1 y0 y1
      have p1 := lss_lt a c ha
      have p2 := lss_lt b d hb
      generalize w4.heap.size = g at *
      obtain ⟨x0, x1⟩ := T5.lo.cells
      go_wp2_with fail
      refine (All_any c d _ hc hd).mono ?_
      rintro e w6 ⟨D, cD, rfl, hcD, ID, b6⟩
      have T6 := T5.later b6
      clear T5 b6 x0 x1
      generalize w5.heap.size = h at *
      have hl1 : (L c d).length ≤ 64 := by unfold L; exact lst_len _ _
      go_wp2_with fail
      go_loop [72] (fun i => ∃ j : Nat, j ≤ (L c d).length ∧ i = .int .i64 j) (fun i => (L c d).length - (intOf i).toNat)
      case atStart => exact ⟨0, by omega, rfl⟩
      case round =>
        obtain ⟨j, hj, rfl⟩ := hrel
        by_cases hjl : j < (L c d).length
        · obtain ⟨bk, off, rfl, hbk, hcc⟩ := ID (by omega)
          have hck := hcc j hjl
          clear hcc
          rw [getD_get _ j hjl] at hck
          have hlo := HLo.out _ (List.getElem_mem hjl)
          generalize (L c d)[j] = x at *
          go_wp2_with fail
          go_round
          case rel => exact ⟨j + 1, by omega, by go_num⟩
          case measure => simp [intOf]; omega
        · obtain ⟨x0, x1⟩ := T6.hi.cells
          go_wp2_with fail
          refine (All_any (lss a c) (lss b d) _ p1 p2).mono ?_
          rintro e w7 ⟨E, cE, rfl, hcE, IE, b7⟩
          have T7 := T6.later b7
          clear T6 b7 x0 x1 ID hcD
          have hl2 : (L (lss a c) (lss b d)).length ≤ 64 := by unfold L; exact lst_len _ _
          go_wp2_with fail
          go_loop [83] (fun i => ∃ j : Nat, j ≤ (L (lss a c) (lss b d)).length ∧ i = .int .i64 j) (fun i => (L (lss a c) (lss b d)).length - (intOf i).toNat)
          case atStart => exact ⟨0, by omega, rfl⟩
          case round =>
            obtain ⟨i, hi, rfl⟩ := hrel
            by_cases hil : i < (L (lss a c) (lss b d)).length
            · obtain ⟨bk, off, rfl, hbk, hcc⟩ := IE (by omega)
              have hck := hcc i hil
              clear hcc
              rw [getD_get _ i hil] at hck
              have hhi := HHi.out _ (List.getElem_mem hil)
              generalize (L (lss a c) (lss b d))[i] = x at *
              go_wp2_with fail
              go_round
              case rel => exact ⟨i + 1, by omega, by go_num⟩
              case measure => simp [intOf]; omega
            · have H1 := held T7.s
              have H2 := held T7.lo
              have H3 := held T7.hi
              have EQ : ∀ w, (Op.equalIn 10000 24 (.agg #[.int .u32 (c ||| lss a c : Nat), .int .u32 (d ||| lss b d : Nat)]) (.agg #[.int .u32 (a : Int), .int .u32 (b : Int)])).run Tryd.prog w = .ok true w := fun w => by rw [HE.out.1, HE.out.2]; exact eqSelf a b w
              have hkn : ((((L a b).length : Nat) : Int) == ((nOf a b : Nat) : Int)) = true := by rw [HN.out]; simp
              clear HN HE
              go_wp2_with fail
              go_region_held3 (fun w' => Below w7.heap.size w7 w')
                (first | assumption | exact (Below.refl _ _).drew)
                (first
                  | (go_at_call 15; refine (orX _ _ _ _ _ hc hd p1 p2).mono ?_; rintro e w8 ⟨rfl, hb8⟩; have b8 : Below w7.heap.size w7 w8 := Below.trans (by assumption) (hb8.mono (Below.size (by assumption))))
                  | (go_at_call 18; refine (lenX _ _ _ ha hb).mono ?_; rintro e w8 ⟨rfl, hb8⟩; have b8 : Below w7.heap.size w7 w8 := Below.trans (by assumption) (hb8.mono (Below.size (by assumption)))))
              go_wp2_with fail
              go_ret
              exact ⟨rfl, T7.bel.trans (Below.mono (by assumption) T7.bel.size)⟩
end Go.Proofs.YtljfnfaljadjdaaDoor
