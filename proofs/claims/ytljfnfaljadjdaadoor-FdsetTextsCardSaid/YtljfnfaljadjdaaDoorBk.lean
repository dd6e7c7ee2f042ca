/- Parse of Text is the set: the plain law. -/
import Derived.Test.YtljfnfaljadjdaaDoorPw
import Derived.Test.YtljfnfaljadjdaaDoorY
import Derived.Lib.SplitLaws
import Derived.Lib.Join
import Derived.Lib.IndexBytes
namespace Go.Proofs.YtljfnfaljadjdaaDoor
open Go.RowKit
set_option linter.unusedSimpArgs false
set_option linter.unusedVariables false
set_option maxRecDepth 100000

theorem adR_has (c d x : Nat) : ∀ n, x + n ≤ 64 → ∀ i, i < 64 → hasN (adR (c, d) x n).1 (adR (c, d) x n).2 i = (hasN c d i || decide (x ≤ i ∧ i < x + n))
  | 0, _, i, hi => by
    rw [adR_zero]
    have : decide (x ≤ i ∧ i < x + 0) = false := by simp
    rw [this, Bool.or_false]
  | n + 1, h, i, hi => by
    rw [adR_succ]
    simp only
    rw [has_wi _ _ _ _ (by omega) hi, adR_has c d x n (by omega) i hi, Bool.or_assoc]
    congr 1
    rw [Bool.eq_iff_iff]
    simp
    omega

theorem dig_no : ∀ k : Fin 64, (44 : UInt8) ∉ Lib.decDigits k.val ∧ (45 : UInt8) ∉ Lib.decDigits k.val ∧ (110 : UInt8) ∉ Lib.decDigits k.val := by decide +kernel
theorem dig_num : ∀ k : Fin 64, numO (digB k.val) = some k.val := by decide +kernel
theorem runS_data (f x : Nat) : (runS f x).data.toList = if f < x then Lib.decDigits f ++ 45 :: Lib.decDigits x else Lib.decDigits f := by
  unfold runS digB
  split
  · simp [ByteArray.data_append]
  · simp
theorem runS_no (f x : Nat) (hf : f < 64) (hx : x < 64) : (44 : UInt8) ∉ (runS f x).data.toList ∧ (110 : UInt8) ∉ (runS f x).data.toList := by
  obtain ⟨h1, _, h3⟩ := dig_no ⟨f, hf⟩
  obtain ⟨g1, _, g3⟩ := dig_no ⟨x, hx⟩
  simp only at h1 h3 g1 g3
  rw [runS_data]
  split
  · constructor
    · simp [h1, g1]
    · simp [h3, g3]
  · exact ⟨h1, h3⟩
theorem idx_hit (c : UInt8) (t : List UInt8) : ∀ x : List UInt8, c ∉ x → Lib.indexByte (x ++ c :: t) c = (x.length : Int)
  | [], _ => by simp [Lib.indexByte]
  | b :: x, h => by
    have hb : ¬ b = c := fun e => h (by simp [e])
    have ih := idx_hit c t x (fun e => h (by simp [e]))
    simp only [List.cons_append, Lib.indexByte]
    rw [if_neg (by simpa using hb), ih, if_neg (by simp)]
    simp
theorem idx_miss (c : UInt8) : ∀ x : List UInt8, c ∉ x → Lib.indexByte x c = -1
  | [], _ => rfl
  | b :: x, h => by
    have hb : ¬ b = c := fun e => h (by simp [e])
    have ih := idx_miss c x (fun e => h (by simp [e]))
    simp only [Lib.indexByte]
    rw [if_neg (by simpa using hb), ih]
    simp

theorem splitK_join (c : UInt8) : ∀ (r : List (List UInt8)) (x : List UInt8), c ∉ x → (∀ y ∈ r, c ∉ y) → Lib.splitK [c] 0 r.length (x ++ Lib.joinTail [c] r) = x :: r
  | [], x, _, _ => by simp [Lib.splitK, Lib.joinTail]
  | y :: r, x, hx, hr => by
    have e : Lib.joinTail [c] (y :: r) = c :: (y ++ Lib.joinTail [c] r) := by simp [Lib.joinTail]
    rw [e]
    have hi := idx_hit c (y ++ Lib.joinTail [c] r) x hx
    have ih := splitK_join c r y (hr y (by simp)) (fun z hz => hr z (by simp [hz]))
    simp only [List.length_cons, Lib.splitK]
    rw [Lib.index_one, hi, if_neg (by simp)]
    simp only [Int.toNat_natCast, Nat.add_zero]
    rw [List.take_left, show x ++ c :: (y ++ Lib.joinTail [c] r) = (x ++ [c]) ++ (y ++ Lib.joinTail [c] r) by simp, List.drop_left' (by simp), ih]
theorem count_join (c : UInt8) : ∀ (r : List (List UInt8)) (x : List UInt8), c ∉ x → (∀ y ∈ r, c ∉ y) → (x ++ Lib.joinTail [c] r).count c = r.length
  | [], x, hx, _ => by simp [Lib.joinTail, List.count_eq_zero.2 hx]
  | y :: r, x, hx, hr => by
    have e : Lib.joinTail [c] (y :: r) = c :: (y ++ Lib.joinTail [c] r) := by simp [Lib.joinTail]
    have ih := count_join c r y (hr y (by simp)) (fun z hz => hr z (by simp [hz]))
    rw [e, List.count_append, List.count_eq_zero.2 hx, List.count_cons_self, ih]
    simp
theorem split_join (c : UInt8) (x : List UInt8) (r : List (List UInt8)) (hx : c ∉ x) (hr : ∀ y ∈ r, c ∉ y) : Lib.split (Lib.join (x :: r) [c]) [c] = x :: r := by
  unfold Lib.split
  rw [Lib.join_cons, Lib.count_one, count_join c r x hx hr, splitK_join c r x hx hr]
theorem cut_hit (l t : List UInt8) (h : (45 : UInt8) ∉ l) : Lib.cut (l ++ 45 :: t) [45] = (l, t, true) := by
  have hi := idx_hit 45 t l h
  unfold Lib.cut
  rw [Lib.index_one, hi, if_pos (by omega)]
  simp only [Int.toNat_natCast, List.length_singleton]
  rw [List.take_left, show l ++ 45 :: t = (l ++ [45]) ++ t by simp, List.drop_left' (by simp)]
theorem cut_miss (l : List UInt8) (h : (45 : UInt8) ∉ l) : Lib.cut l [45] = (l, [], false) := by
  have hi := idx_miss 45 l h
  unfold Lib.cut
  rw [Lib.index_one, hi, if_neg (by omega)]
theorem pair_run (f x : Nat) (hfx : f ≤ x) (hx : x < 64) : pairO (runS f x) = some (f, x) := by
  obtain ⟨_, h2, _⟩ := dig_no ⟨f, by omega⟩
  have n1 := dig_num ⟨f, by omega⟩
  have n2 := dig_num ⟨x, hx⟩
  simp only at h2 n1 n2
  unfold pairO toB cutM cutA cutB
  rw [runS_data]
  by_cases h : f < x
  · rw [if_pos h, cut_hit _ _ h2]
    simp only [if_true]
    rw [show (⟨(Lib.decDigits f).toArray⟩ : ByteArray) = digB f from rfl, show (⟨(Lib.decDigits x).toArray⟩ : ByteArray) = digB x from rfl, n1, n2]
  · rw [if_neg h, cut_miss _ h2]
    simp only [Bool.false_eq_true, if_false]
    rw [show (⟨(Lib.decDigits f).toArray⟩ : ByteArray) = digB f from rfl, n1]
    simp; omega

/-- The state behind the numbers below k. -/
def SK (a b : Nat) : Nat → Nat × List ByteArray
  | 0 => (0, [])
  | k + 1 => if hasN a b k then stepT a b (SK a b k) k else SK a b k
theorem range_SK (a b : Nat) : ∀ k, (List.range k).foldl (fun s i => if hasN a b i then stepT a b s i else s) (0, []) = SK a b k
  | 0 => rfl
  | k + 1 => by rw [List.range_succ, List.foldl_append, range_SK a b k]; rfl
theorem stT_SK (a b : Nat) : stT a b (LF a b) = SK a b 64 := by
  rw [← range_SK, ← range_fin, List.foldl_map]
  unfold stT LF
  rw [List.foldl_filter]
/-- What the state says of the set. -/
structure Kin (a b k : Nat) : Prop where
  q : ∃ c d, foldP (SK a b k).2 = some (c, d) ∧ c < 4294967296 ∧ d < 4294967296 ∧
    ((hasZ a b ((k : Int) - 1) && hasZ a b k) = true → (SK a b k).1 < k ∧ (∀ i, (SK a b k).1 ≤ i → i < k → hasN a b i = true) ∧ ∀ i, i < 64 → hasN c d i = (hasN a b i && decide (i < (SK a b k).1))) ∧
    ((hasZ a b ((k : Int) - 1) && hasZ a b k) = false → ∀ i, i < 64 → hasN c d i = (hasN a b i && decide (i < k)))
  n : ∀ y ∈ (SK a b k).2, (44 : UInt8) ∉ y.data.toList ∧ (110 : UInt8) ∉ y.data.toList
theorem hasZ_n (a b i : Nat) (h : i < 64) : hasZ a b (i : Int) = hasN a b i := by unfold hasZ; rw [if_pos (by omega)]; rfl
theorem foldP_snoc (l : List ByteArray) (r : ByteArray) : foldP (l ++ [r]) = stepP (foldP l) r := by unfold foldP; rw [List.foldl_append]; rfl
theorem kin_all (a b : Nat) : ∀ k, k ≤ 64 → Kin a b k
  | 0, _ => ⟨⟨0, 0, rfl, by decide, by decide, fun h => by simp [hasZ] at h, fun _ i hi => by rw [has_zero]; simp⟩, fun y hy => by simp [SK] at hy⟩
  | k + 1, hk => by
    obtain ⟨⟨c, d, hf, hc, hd, ho, hcl⟩, hn⟩ := kin_all a b k (by omega)
    have e0 : (((k + 1 : Nat) : Int) - 1) = (k : Int) := by omega
    by_cases hs : hasN a b k = true
    · have hz : hasZ a b (k : Int) = true := by rw [hasZ_n a b k (by omega)]; exact hs
      have hSK : SK a b (k + 1) = stepT a b (SK a b k) k := by rw [SK, if_pos hs]
      obtain ⟨f, hfe⟩ : ∃ f, f = if hasZ a b ((k : Int) - 1) then (SK a b k).1 else k := ⟨_, rfl⟩
      have H : f ≤ k ∧ (∀ i, f ≤ i → i < k + 1 → hasN a b i = true) ∧ ∀ i, i < 64 → hasN c d i = (hasN a b i && decide (i < f)) := by
        cases hp : hasZ a b ((k : Int) - 1)
        · have hfk : f = k := by simpa [hp] using hfe
          exact ⟨by omega, fun i h1 h2 => by rw [show i = k by omega]; exact hs, fun i hi => by rw [hfk]; exact hcl (by rw [hp]; rfl) i hi⟩
        · rw [hp] at hfe; simp at hfe
          obtain ⟨o1, o2, o3⟩ := ho (by rw [hp, hz]; rfl)
          rw [← hfe] at o1 o2 o3
          refine ⟨by omega, fun i h1 h2 => ?_, o3⟩
          by_cases e : i = k
          · rw [e]; exact hs
          · exact o2 i h1 (by omega)
      obtain ⟨f1, f2, f3⟩ := H
      have hS1 : (SK a b (k + 1)).1 = f := by rw [hSK, hfe]; rfl
      cases hq : hasZ a b ((k : Int) + 1)
      · have hS2 : (SK a b (k + 1)).2 = (SK a b k).2 ++ [runS f k] := by rw [hSK, hfe]; unfold stepT; rw [hq]; simp
        have hadd : foldP (SK a b (k + 1)).2 = some (adR (c, d) f (k + 1 - f)) := by
          rw [hS2, foldP_snoc, hf]
          simp only [stepP, pair_run f k f1 (by omega)]
        obtain ⟨l1, l2⟩ := adR_lt (c, d) f (k + 1 - f) hc hd (by omega)
        have hA := adR_has c d f (k + 1 - f) (by omega)
        obtain ⟨c2, d2, he⟩ : ∃ c2 d2, adR (c, d) f (k + 1 - f) = (c2, d2) := ⟨_, _, rfl⟩
        rw [he] at hadd l1 l2 hA
        refine ⟨⟨c2, d2, hadd, l1, l2, fun h => ?_, fun _ i hi => ?_⟩, fun y hy => ?_⟩
        · rw [show (((k + 1 : Nat) : Int)) = (k : Int) + 1 by omega, hq, Bool.and_false] at h
          cases h
        · rw [hA i hi, f3 i hi]
          by_cases h1 : f ≤ i ∧ i < k + 1
          · have d1 : decide (f ≤ i ∧ i < f + (k + 1 - f)) = true := decide_eq_true ⟨h1.1, by omega⟩
            have d2 : decide (i < k + 1) = true := decide_eq_true h1.2
            rw [f2 i h1.1 h1.2, d1, d2, Bool.or_true, Bool.true_and]
          · have : decide (f ≤ i ∧ i < f + (k + 1 - f)) = false := by simp; omega
            rw [this, Bool.or_false]
            congr 1
            rw [Bool.eq_iff_iff]; simp; omega
        · rw [hS2] at hy
          rcases List.mem_append.1 hy with hy | hy
          · exact hn y hy
          · simp at hy; rw [hy]; exact runS_no f k (by omega) (by omega)
      · have hS2 : (SK a b (k + 1)).2 = (SK a b k).2 := by rw [hSK]; unfold stepT; rw [hq]; simp
        refine ⟨⟨c, d, by rw [hS2]; exact hf, hc, hd, fun _ => by rw [hS1]; exact ⟨by omega, f2, f3⟩, fun h => ?_⟩, by rw [hS2]; exact hn⟩
        rw [e0, hz, show (((k + 1 : Nat) : Int)) = (k : Int) + 1 by omega, hq] at h
        cases h
    · have hs' : hasN a b k = false := by simpa using hs
      have hz : hasZ a b (k : Int) = false := by rw [hasZ_n a b k (by omega)]; exact hs'
      have hSK : SK a b (k + 1) = SK a b k := by rw [SK, if_neg hs]
      refine ⟨⟨c, d, by rw [hSK]; exact hf, hc, hd, fun h => ?_, fun _ i hi => ?_⟩, by rw [hSK]; exact hn⟩
      · rw [e0, hz] at h; cases h
      · rw [hcl (by rw [hz, Bool.and_false]) i hi]
        by_cases e : i = k
        · rw [e, hs']; rfl
        · congr 1; rw [Bool.eq_iff_iff]; simp; omega
theorem pcs_data (s : ByteArray) : (pcs s).map (·.data.toList) = Lib.split s.data.toList [44] := by
  unfold pcs Lib.split
  rw [Lib.splitB_data]
theorem none_split : Lib.split [110, 111, 110, 101] [44] = [[110, 111, 110, 101]] := by decide +kernel
/-- What a set's text says is the set. -/
theorem text_back (a b : Nat) (ha : a < 4294967296) (hb : b < 4294967296) (s : ByteArray) (hs : s.data.toList = textL a b) : parseF s = some (a, b) := by
  unfold textL at hs
  cases hz : ((a : Int) == 0 && (b : Int) == 0)
  · rw [hz] at hs
    simp only [Bool.false_eq_true, if_false] at hs
    rw [stT_SK] at hs
    obtain ⟨⟨c, d, hf, hc, hd, _, hcl⟩, hn⟩ := kin_all a b 64 (Nat.le_refl _)
    have hcl2 := hcl (by rw [show hasZ a b ((64 : Nat) : Int) = false from rfl, Bool.and_false])
    obtain ⟨rfl, rfl⟩ := set_ext c d a b hc hd ha hb (fun i hi => by rw [hcl2 i hi]; simp [hi])
    cases ho : (SK c d 64).2 with
    | nil =>
      rw [ho] at hf
      have h0 : some ((0 : Nat), (0 : Nat)) = some (c, d) := hf
      injection h0 with h0
      injection h0 with e1 e2
      subst e1 e2
      cases hz
    | cons x r =>
      rw [ho] at hf hn hs
      have hsp : Lib.split s.data.toList [44] = (x :: r).map (·.data.toList) := by
        rw [hs]
        exact split_join 44 _ _ (hn x (by simp)).1 (fun y hy => by
          obtain ⟨z, hz, rfl⟩ := List.mem_map.1 hy
          exact (hn z (by simp [hz])).1)
      have hp : pcs s = x :: r := by
        have := pcs_data s
        rw [hsp] at this
        exact (List.map_inj_right (fun a b h => WideShapes.bytes_inj h)).1 this
      unfold parseF
      rw [if_neg, hp, hf]
      · simp only
        rw [if_pos]
        rw [hs]
        unfold textL
        rw [hz, stT_SK, ho]
        rfl
      · intro e
        rw [e, none_split] at hsp
        have h1 : x.data.toList = [110, 111, 110, 101] := by
          have := congrArg List.head? hsp
          simpa using this.symm
        exact (hn x (by simp)).2 (by rw [h1]; simp)
  · rw [hz] at hs
    simp only [if_true] at hs
    have h1 : a = 0 ∧ b = 0 := by simpa using hz
    rw [h1.1, h1.2]
    unfold parseF
    rw [if_pos hs]
theorem foldP_lt (l : List ByteArray) : ∀ o : Option (Nat × Nat), (∀ p, o = some p → p.1 < 4294967296 ∧ p.2 < 4294967296) → ∀ p, l.foldl stepP o = some p → p.1 < 4294967296 ∧ p.2 < 4294967296 := by
  induction l with
  | nil => intro o h p hp; exact h p hp
  | cons x l ih =>
    intro o h p hp
    refine ih (stepP o x) ?_ p hp
    intro q hq
    unfold stepP at hq
    cases ho : o with
    | none => rw [ho] at hq; cases hq
    | some r =>
      rw [ho] at hq
      cases hx : pairO x with
      | none => rw [hx] at hq; cases hq
      | some y =>
        rw [hx] at hq
        simp only at hq
        injection hq with hq
        obtain ⟨y1, y2⟩ := y
        obtain ⟨_, _, h1, h2⟩ := pairO_lt hx
        rw [← hq]
        obtain ⟨b1, b2⟩ := h r ho
        by_cases hle : y1 ≤ y2 + 1
        · exact adR_lt r y1 (y2 + 1 - y1) b1 b2 (by omega)
        · rw [show y2 + 1 - y1 = 0 by omega, adR_zero]; exact ⟨b1, b2⟩
theorem parse_text {t : ByteArray} {p : Nat × Nat} (h : parseF t = some p) : textL p.1 p.2 = t.data.toList ∧ p.1 < 4294967296 ∧ p.2 < 4294967296 := by
  unfold parseF at h
  split at h
  · rename_i hn
    injection h with h
    subst h
    exact ⟨hn.symm, by decide, by decide⟩
  · split at h
    · cases h
    · rename_i q hq
      split at h
      · rename_i ht
        injection h with h
        subst h
        exact ⟨ht, foldP_lt _ (some (0, 0)) (fun p hp => by injection hp with hp; subst hp; exact ⟨by decide, by decide⟩) _ hq⟩
      · cases h
theorem textL_len (a b : Nat) : (textL a b).length ≤ 1000 := by
  unfold textL
  split
  · decide
  · have := stT_join a b (LF a b) (by unfold LF; have := List.length_filter_le (fun i : Fin 64 => hasN a b i.val) (List.finRange 64); simpa using this)
    omega
theorem parse_back (a b : Nat) (ha : a < 4294967296) (hb : b < 4294967296) (w : World) (hE : Env w) : Calls Tryd.prog 23 #[.string ⟨(textL a b).toArray⟩] w fun e w' => e = .returned (.tuple #[.agg #[.int .u32 a, .int .u32 b], .int .i64 0]) ∧ Below w.heap.size w w' := by
  refine (parse_any _ w hE (by rw [mk_size]; exact textL_len a b)).mono ?_
  rintro e w' ⟨⟨p, ev, hp, rfl⟩, hb'⟩
  rw [text_back a b ha hb _ (by simp)] at hp
  rcases hp with ⟨hp, rfl⟩ | ⟨hp, _⟩
  · injection hp with hp; subst hp; exact ⟨rfl, hb'⟩
  · cases hp
structure Ba (w wr : World) (g h a b : Nat) : Prop where
  s : Sb wr g a b
  t : Sb wr h a b
  bel : Below w.heap.size w wr
theorem Ba.later {w wr w1 : World} {g h a b : Nat} (T : Ba w wr g h a b) (hb : Below wr.heap.size wr w1) : Ba w w1 g h a b := ⟨T.s.below hb T.s.lt, T.t.below hb T.t.lt, T.bel.trans (hb.mono T.bel.size)⟩

set_option maxHeartbeats 4000000 in
theorem back_walk (a b : Nat) (t : ByteArray) (w : World) (hE : Env w) (ha : a < 4294967296) (hb : b < 4294967296) (ht : t.size ≤ 1000) : Calls Tryd.prog 9 #[.agg #[.int .u32 a, .int .u32 b], .string t] w fun e w' => e = .returned (.bool true) ∧ Below w.heap.size w w' := by
  have HE := Lib.hid hE; clear hE
  have EQ0 : ∀ w, (Op.equalIn 10000 24 (.agg #[.int .u32 0, .int .u32 0]) (.agg #[.int .u32 0, .int .u32 0])).run Tryd.prog w = .ok true w := fun w => eqIn 0 0 0 0 w
  have EQS : ∀ w, (Op.equalIn 10000 24 (.agg #[.int .u32 (a : Int), .int .u32 (b : Int)]) (.agg #[.int .u32 (a : Int), .int .u32 (b : Int)])).run Tryd.prog w = .ok true w := fun w => by rw [eqIn]; simp
  have HT := Lib.hid (fun W => text_any a b W ha hb)
  have HPB := Lib.hid (fun W hW => parse_back a b ha hb W hW)
  have HPT := Lib.hid (fun W hW => parse_any t W hW ht)
  have ht2 : (t.size : Int) ≤ 1000 := by omega
  generalize (⟨(textL a b).toArray⟩ : ByteArray) = s' at HT HPB
  go_enter Tryd.func9, Tryd.ntmps9
  go_wp2_with fail
  refine (alive_any _).mono ?_
  rintro e w1 ⟨rfl, b1⟩
  have s1 : Sb w1 w.heap.size a b := (Sb.new w a b).below b1 (by simp)
  have B1 : Below w.heap.size w w1 := ((Below.refl _ w).alloc (Nat.le_refl _) _).trans (b1.mono (by simp))
  have T1 : Hid (Ba w w1 w.heap.size w.heap.size a b) := Lib.hid ⟨s1, s1, B1⟩
  obtain ⟨c0, c1⟩ := s1.cells
  clear b1 s1 B1
  go_wp2_with fail
  refine (HT.out _).mono ?_
  rintro e w2 ⟨rfl, b2⟩
  have T2 := Lib.hid (T1.out.later b2)
  clear b2 T1 c0 c1
  go_wp2_with fail
  refine (HPB.out _ (HE.out.below T2.out.bel)).mono ?_
  rintro e w3 ⟨rfl, b3⟩
  have T3 := Lib.hid (T2.out.later b3)
  clear b3 T2
  have T4 : Hid (Ba w (w3.alloc (.cells #[.int .u32 a, .int .u32 b] 24)) w.heap.size w3.heap.size a b) := Lib.hid ⟨T3.out.s.below ((Below.refl _ _).alloc (Nat.le_refl _) _) T3.out.s.lt, Sb.new w3 a b, T3.out.bel.alloc T3.out.bel.size _⟩
  clear T3
  go_wp2_with fail
  refine (HPT.out _ (HE.out.below T4.out.bel)).mono ?_
  rintro e w4 ⟨⟨⟨p, q⟩, ev, hp, rfl⟩, b4⟩
  have T5 := Lib.hid (T4.out.later b4)
  clear b4 T4
  generalize w3.heap.size = g6 at T5 ⊢
  have T6 : Hid (Ba w (w4.alloc (.cells #[.int .u32 p, .int .u32 q] 24)) w.heap.size g6 a b) := Lib.hid (T5.out.later ((Below.refl _ _).alloc (Nat.le_refl _) _))
  clear T5
  simp only [sv]
  rcases hp with ⟨hp, rfl⟩ | ⟨hp, hz, rfl⟩
  · obtain ⟨h1, h2, h3⟩ := parse_text hp
    simp only at h1 h2 h3
    have HU := Lib.hid (fun W => text_any p q W h2 h3)
    have hu : (⟨(textL p q).toArray⟩ : ByteArray) = t := bytes_eq.2 h1.symm
    rw [hu] at HU
    clear hu h1 hp
    obtain ⟨c0, c1⟩ := T6.out.s.cells
    obtain ⟨d0, d1⟩ := T6.out.t.cells
    obtain ⟨e0, e1⟩ := (Sb.new w4 p q).cells
    go_wp2_with fail
    refine (HU.out _).mono ?_
    rintro e w5 ⟨rfl, b5⟩
    have T7 := Lib.hid (T6.out.later b5)
    clear b5 T6 c0 c1 d0 d1 e0 e1
    go_wp2_with fail
    go_ret
    exact ⟨rfl, T7.out.bel⟩
  · obtain ⟨rfl, rfl⟩ : p = 0 ∧ q = 0 := by injection hz with h1 h2; exact ⟨h1, h2⟩
    clear hz hp
    have T7 : Hid (Ba w (w4.alloc (.cells #[.int .u32 0, .int .u32 0] 24)) w.heap.size g6 a b) := T6
    clear T6
    simp only [show ((0 : Nat) : Int) = 0 from rfl]
    obtain ⟨c0, c1⟩ := T7.out.s.cells
    obtain ⟨d0, d1⟩ := T7.out.t.cells
    go_wp2_with fail
    go_ret
    exact ⟨rfl, T7.out.bel⟩
theorem back_long (a b : Nat) (t : ByteArray) (w : World) (ht : 1000 < t.size) (hm : t.size ≤ maxLen) : Calls Tryd.prog 9 #[.agg #[.int .u32 a, .int .u32 b], .string t] w fun e w' => e = .returned (.bool true) ∧ Below w.heap.size w w' := by
  have ht2 : (1000 : Int) < t.size := by omega
  go_enter Tryd.func9, Tryd.ntmps9
  go_wp2_with fail
  refine (alive_any _).mono ?_
  rintro e w1 ⟨rfl, b1⟩
  have B1 : Hid (Below w.heap.size w w1) := Lib.hid (((Below.refl _ w).alloc (Nat.le_refl _) _).trans (b1.mono (by simp)))
  clear b1
  go_wp2_with fail
  go_ret
  exact ⟨rfl, B1.out⟩
end Go.Proofs.YtljfnfaljadjdaaDoor
