/- The law of the seconds. -/
import Derived.Test.YtfjjmmaddcofkaaSb
namespace Go.Proofs.Ytfjjmmaddcofkaa
open Go.RowKit
set_option linter.unusedSimpArgs false
set_option linter.unusedVariables false

/-- Seconds that are refused. -/
def bad (b : Nat) : Bool := !isNum b || (FloatKind.f64.format.order b 0 == some .lt)
def tW (b : Nat) : Int := if bad b then 0 else (secs (b % 2 ^ 63) : Int)
def tE (b : Nat) : Int := if bad b then 2 else 0
theorem isNum_word (neg : Bool) {r : Nat} (h : r ≤ 2047 * 2 ^ 52) : isNum (Ieee.double.word neg r) = true := by
  unfold isNum
  rcases Nat.lt_or_eq_of_le h with c | c
  · obtain ⟨m, k, h1, _⟩ := read_num neg c
    rw [h1]; rfl
  · rw [c, read_inf]; rfl
theorem nn_word (neg : Bool) {r : Nat} (h : r ≤ 2047 * 2 ^ 52) : (FloatKind.f64.format.order (Ieee.double.word neg r) (Ieee.double.word neg r) != some .eq) = false := by
  have := order_self neg h
  show (!(Ieee.double.order _ _ == _)) = false
  rw [this]; rfl
theorem zero_word : (0 : Nat) = Ieee.double.word false 0 := rfl
theorem lt0_word (neg : Bool) {r : Nat} (h : r ≤ 2047 * 2 ^ 52) : (FloatKind.f64.format.order (Ieee.double.word neg r) 0 == some .lt) = (neg && decide (0 < r)) := by
  have e := lt_word neg false h (Nat.zero_le (2047 * 2 ^ 52))
  rw [V_zero] at e
  have e2 : (FloatKind.f64.format.order (Ieee.double.word neg r) 0 == some .lt) = (Ieee.double.order (Ieee.double.word neg r) (Ieee.double.word false 0) == some .lt) := rfl
  rw [e2, e]
  unfold sg
  cases neg
  · simp
  · simp only [if_true, Bool.true_and]
    rcases Nat.eq_zero_or_pos r with c | c
    · subst c; rw [V_zero]; decide
    · have := V_lt c h
      rw [V_zero] at this
      rw [decide_eq_true c, decide_eq_true]
      simp; omega
theorem mod_word (neg : Bool) {r : Nat} (h : r ≤ 2047 * 2 ^ 52) : Ieee.double.word neg r % 2 ^ 63 = r := (split_word neg (Nat.lt_of_le_of_lt h top_lt)).2
theorem bad_word (neg : Bool) {r : Nat} (h : r ≤ 2047 * 2 ^ 52) : bad (Ieee.double.word neg r) = (neg && decide (0 < r)) := by
  unfold bad
  rw [isNum_word neg h, lt0_word neg h]; rfl
theorem mul_fl (neg : Bool) {r : Nat} (h : r ≤ 2047 * 2 ^ 52) : floatBits .mul .f64 (Ieee.double.word neg r) 4652007308841189376 = some (Ieee.double.word neg (xr r)) := mul_word neg h
theorem conv_word {r : Nat} (h : r < 2047 * 2 ^ 52) (hv : V r / O < 2 ^ 64) : floatToIntVal .f64 (Ieee.double.word false r) .u64 = some ((V r / O : Nat) : Int) := by
  have e : (FloatKind.f64.decode (Ieee.double.word false r)).toInt .zero = some ((V r / O : Nat) : Int) := int_word h
  unfold floatToIntVal
  rw [e]
  simp only []
  rw [if_pos]
  have a1 : IntKind.u64.min = 0 := rfl
  have a2 : IntKind.u64.max = 18446744073709551615 := rfl
  rw [a1, a2]
  generalize V r / O = z at *
  omega
theorem secs_far {r : Nat} (h : 2 ^ 64 * O ≤ V (xr r)) : secs r = 18446744073709551615 := if_pos h
theorem secs_near {r : Nat} (h : ¬ 2 ^ 64 * O ≤ V (xr r)) : secs r = cd (V (xr r)) := if_neg h
theorem nz_all : floatBits .mul .f64 (Ieee.double.word true 0) 4652007308841189376 = some (Ieee.double.word true 0) ∧ Ieee.double.write ((Ieee.double.read (Ieee.double.word true 0)).integral .up) = Ieee.double.word true 0 ∧ (FloatKind.f64.format.order (Ieee.double.word true 0) 4895412794951729152 == some .gt || FloatKind.f64.format.order (Ieee.double.word true 0) 4895412794951729152 == some .eq) = false ∧ floatToIntVal .f64 (Ieee.double.word true 0) .u64 = some 0 ∧ (FloatKind.f64.format.order (floatOfInt .f64 0) (Ieee.double.word true 0) == some .lt) = false := by decide +kernel
theorem ceil_xr (r : Nat) : Ieee.double.write ((Ieee.double.read (Ieee.double.word false (xr r))).integral .up) = Ieee.double.word false (nr r) := ceil_word (xr_top r)
theorem geB {r : Nat} (h : r ≤ 2047 * 2 ^ 52) : (FloatKind.f64.format.order (Ieee.double.word false r) 4895412794951729152 == some .gt || FloatKind.f64.format.order (Ieee.double.word false r) 4895412794951729152 == some .eq) = decide (2 ^ 64 * O ≤ V r) := ge_BEY h
theorem tw_neg {r : Nat} (h : r ≤ 2047 * 2 ^ 52) (hp : 0 < r) : tW (Ieee.double.word true r) = 0 ∧ tE (Ieee.double.word true r) = 2 := by
  have : bad (Ieee.double.word true r) = true := by rw [bad_word true h, decide_eq_true hp]; rfl
  unfold tW tE
  rw [this]; exact ⟨rfl, rfl⟩
theorem tw_nz : tW (Ieee.double.word true 0) = 0 ∧ tE (Ieee.double.word true 0) = 0 := by
  have : bad (Ieee.double.word true 0) = false := by rw [bad_word true (Nat.zero_le _)]; rfl
  unfold tW tE
  rw [this, mod_word true (Nat.zero_le _), secs_zero]; exact ⟨rfl, rfl⟩
theorem tw_pos {r : Nat} (h : r ≤ 2047 * 2 ^ 52) : tW (Ieee.double.word false r) = (secs r : Int) ∧ tE (Ieee.double.word false r) = 0 := by
  have : bad (Ieee.double.word false r) = false := by rw [bad_word false h]; rfl
  unfold tW tE
  rw [this, mod_word false h]; exact ⟨rfl, rfl⟩
theorem tw_none {b : Nat} (h : isNum b = false) : tW b = 0 ∧ tE b = 2 := by
  have : bad b = true := by unfold bad; rw [h]; rfl
  unfold tW tE
  rw [this]; exact ⟨rfl, rfl⟩
theorem fromSeconds_any (b : Nat) (w : World) (h : b < 2 ^ 64) : Calls Try.prog 28 #[.float .f64 b] w fun e w' => e = .returned (.tuple #[.int .u64 (tW b), .int .i64 (tE b)]) ∧ Below w.heap.size w w' := by
  cases hb : isNum b
  · rw [(tw_none hb).1, (tw_none hb).2]
    exact fromS_none b w hb
  · have hb' : (Ieee.double.read b).isNaN = false := by unfold isNum at hb; simpa using hb
    obtain ⟨neg, r, hr, rfl⟩ := word_of h hb'
    cases neg
    · rw [(tw_pos hr).1, (tw_pos hr).2]
      by_cases hf : 2 ^ 64 * O ≤ V (xr r)
      · refine (fromS_any _ _ _ false true 0 w (mul_fl false hr) (isNum_word _ (xr_top r)) (ceil_xr r) (nn_word _ hr) (lt0_word _ hr) (fun _ => by rw [geB (nr_top r), decide_eq_true ((far_both r).2 hf)]) (fun _ h => by cases h)).mono ?_
        rintro e w' ⟨rfl, rfl⟩
        rw [secs_far hf]
        exact ⟨rfl, Below.refl _ _⟩
      · have hf' := mt (far_both r).1 hf
        have hv := nr_val hf
        refine (fromS_any _ _ _ false false ((V (nr r) / O : Nat) : Int) w (mul_fl false hr) (isNum_word _ (xr_top r)) (ceil_xr r) (nn_word _ hr) (lt0_word _ hr) (fun _ => by rw [geB (nr_top r), decide_eq_false hf']) (fun _ _ => conv_word (near hf' (nr_top r)) (by rw [hv.1]; exact hv.2))).mono ?_
        rintro e w' ⟨rfl, rfl⟩
        rw [secs_near hf, hv.1]
        exact ⟨rfl, Below.refl _ _⟩
    · rcases Nat.eq_zero_or_pos r with c | c
      · subst c
        rw [tw_nz.1, tw_nz.2]
        obtain ⟨n1, n2, n3, n4, n5⟩ := nz_all
        refine (fromS_any _ _ _ false false 0 w n1 (isNum_word _ hr) n2 (nn_word _ hr) (lt0_word _ hr) (fun _ => n3) (fun _ _ => n4)).mono ?_
        rintro e w' ⟨rfl, rfl⟩
        exact ⟨rfl, Below.refl _ _⟩
      · rw [(tw_neg hr c).1, (tw_neg hr c).2]
        refine (fromS_any _ _ _ true true 0 w (mul_fl true hr) (isNum_word _ (xr_top r)) rfl (nn_word _ hr) (by rw [lt0_word _ hr, decide_eq_true c]; rfl) (fun h => by cases h) (fun h => by cases h)).mono ?_
        rintro e w' ⟨rfl, rfl⟩
        exact ⟨rfl, Below.refl _ _⟩
theorem fromSeconds_ref (b : Nat) (w : World) (h : b < 2 ^ 64) : Calls Try.prog 29 #[.float .f64 b] w fun e w' => e = .returned (.tuple #[.int .u64 (tW b), .int .i64 (tE b)]) ∧ w = w' := by
  cases hb : isNum b
  · rw [(tw_none hb).1, (tw_none hb).2]
    exact fromS_ref_none b w hb
  · have hb' : (Ieee.double.read b).isNaN = false := by unfold isNum at hb; simpa using hb
    obtain ⟨neg, r, hr, rfl⟩ := word_of h hb'
    cases neg
    · rw [(tw_pos hr).1, (tw_pos hr).2]
      by_cases hf : 2 ^ 64 * O ≤ V (xr r)
      · refine (fromS_ref _ _ false true false 0 w (mul_fl false hr) (nn_word _ hr) (lt0_word _ hr) (fun _ => by rw [geB (xr_top r), decide_eq_true hf]) (fun _ h => by cases h) (fun _ h => by cases h) (by omega) (by simp)).mono ?_
        rintro e w' ⟨rfl, rfl⟩
        rw [secs_far hf]
        exact ⟨rfl, rfl⟩
      · have hv := xr_val hf
        have hs := secs_lt r
        have e : (secs r : Int) = ((V (xr r) / O : Nat) : Int) + (if decide (V (R (V (xr r) / O * O)) < V (xr r)) = true then 1 else 0) := by
          rw [secs_near hf, hv.1]
          by_cases c : V (R (V (xr r) / O * O)) < V (xr r)
          · rw [if_pos c, if_pos (decide_eq_true c)]; omega
          · rw [if_neg c, if_neg (by simpa using c)]; omega
        refine (fromS_ref _ _ false false (decide (V (R (V (xr r) / O * O)) < V (xr r))) ((V (xr r) / O : Nat) : Int) w (mul_fl false hr) (nn_word _ hr) (lt0_word _ hr) (fun _ => by rw [geB (xr_top r), decide_eq_false hf]) (fun _ _ => conv_word (near hf (xr_top r)) hv.2) (fun _ _ => ?_) (Int.natCast_nonneg _) (by rw [← e]; omega)).mono ?_
        · rw [ofInt_word _ (Int.natCast_nonneg _)]
          have e2 := lt_word false false (R_top (V (xr r) / O * O)) (xr_top r)
          have e3 : (((V (xr r) / O : Nat) : Int).toNat) = V (xr r) / O := Int.toNat_natCast _
          rw [e3]
          refine Eq.trans e2 (decide_eq_decide.2 ?_)
          generalize V (R (V (xr r) / O * O)) = p
          generalize V (xr r) = q
          unfold sg
          simp
        · rintro e' w' ⟨rfl, rfl⟩
          rw [← e]
          exact ⟨rfl, rfl⟩
    · rcases Nat.eq_zero_or_pos r with c | c
      · subst c
        rw [tw_nz.1, tw_nz.2]
        obtain ⟨n1, n2, n3, n4, n5⟩ := nz_all
        refine (fromS_ref _ _ false false false 0 w n1 (nn_word _ hr) (lt0_word _ hr) (fun _ => n3) (fun _ _ => n4) (fun _ _ => n5) (by omega) (by simp)).mono ?_
        rintro e w' ⟨rfl, rfl⟩
        exact ⟨rfl, rfl⟩
      · rw [(tw_neg hr c).1, (tw_neg hr c).2]
        refine (fromS_ref _ _ true true false 0 w (mul_fl true hr) (nn_word _ hr) (by rw [lt0_word _ hr, decide_eq_true c]; rfl) (fun h => by cases h) (fun h => by cases h) (fun h => by cases h) (by omega) (by simp)).mono ?_
        rintro e w' ⟨rfl, rfl⟩
        exact ⟨rfl, rfl⟩
/-- More seconds are no fewer ticks. -/
theorem no_fewer {s m : Nat} (hs : s < 2 ^ 64) (hm : m < 2 ^ 64) (e1 : tE s = 0) (e2 : tE m = 0) (hle : (FloatKind.f64.format.order s m == some .lt || FloatKind.f64.format.order s m == some .eq) = true) : tW s ≤ tW m := by
  have open_ : ∀ {b : Nat}, b < 2 ^ 64 → tE b = 0 → ∃ neg r, r ≤ 2047 * 2 ^ 52 ∧ b = Ieee.double.word neg r ∧ tW b = (secs r : Int) ∧ sg neg (V r) = (V r : Int) := by
    intro b hb he
    cases hn : isNum b
    · rw [(tw_none hn).2] at he; cases he
    · have hb' : (Ieee.double.read b).isNaN = false := by unfold isNum at hn; simpa using hn
      obtain ⟨neg, r, hr, rfl⟩ := word_of hb hb'
      cases neg
      · exact ⟨false, r, hr, rfl, (tw_pos hr).1, rfl⟩
      · rcases Nat.eq_zero_or_pos r with c | c
        · subst c
          exact ⟨true, 0, hr, rfl, by rw [tw_nz.1, secs_zero]; rfl, by rw [V_zero]; rfl⟩
        · rw [(tw_neg hr c).2] at he; cases he
  obtain ⟨n1, r1, h1, rfl, t1, v1⟩ := open_ hs e1
  obtain ⟨n2, r2, h2, rfl, t2, v2⟩ := open_ hm e2
  have e := le_word n1 n2 h1 h2
  have hle' : (Ieee.double.order (Ieee.double.word n1 r1) (Ieee.double.word n2 r2) == some .lt || Ieee.double.order (Ieee.double.word n1 r1) (Ieee.double.word n2 r2) == some .eq) = true := hle
  rw [e, v1, v2] at hle'
  rw [t1, t2]
  have := secs_mono (a := r1) (b := r2) (by have := of_decide_eq_true hle'; omega)
  omega
theorem tW_bd (b : Nat) : 0 ≤ tW b ∧ tW b ≤ 18446744073709551615 := by
  unfold tW
  split
  · omega
  · have := secs_lt (b % 2 ^ 63)
    constructor <;> omega
theorem tE_cases (b : Nat) : tE b = 0 ∨ tE b = 2 := by unfold tE; split <;> simp
end Go.Proofs.Ytfjjmmaddcofkaa
