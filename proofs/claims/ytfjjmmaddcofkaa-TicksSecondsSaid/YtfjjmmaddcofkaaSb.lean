/- Contracts: Seconds and FromSeconds, of the program and of the reference. -/
import Derived.Test.YtfjjmmaddcofkaaSa
namespace Go.Proofs.Ytfjjmmaddcofkaa
open Go.RowKit
set_option linter.unusedSimpArgs false
set_option linter.unusedVariables false

theorem ofInt_word (n : Int) (h : 0 ≤ n) : floatOfInt .f64 n = Ieee.double.word false (R (n.toNat * O)) := by
  have e : floatOfInt .f64 n = Ieee.double.write (.number (decide (n < 0)) n.natAbs 0) := rfl
  rw [e, decide_eq_false (by omega), of_nat, show n.natAbs = n.toNat by omega]
/-- Seconds of ticks, as a word. -/
def secW (n : Int) : Nat := if n = 18446744073709551615 then 0x7FF0000000000000 else (Ieee.double.div (floatOfInt .f64 n) K).getD 0
theorem secW_div (n : Int) (h : 0 ≤ n) (hn : n ≠ 18446744073709551615) : floatBits .quo .f64 (floatOfInt .f64 n) 4652007308841189376 = some (secW n) := by
  obtain ⟨q, h1, h2⟩ := div_word false (R_top (n.toNat * O))
  have e : floatBits .quo .f64 (floatOfInt .f64 n) 4652007308841189376 = Ieee.double.div (floatOfInt .f64 n) K := rfl
  unfold secW
  rw [if_neg hn, e, ofInt_word n h, h2]
  rfl
theorem secW_self (n : Int) (h : 0 ≤ n) : (FloatKind.f64.format.order (secW n) (secW n) == some .eq) = true := by
  unfold secW
  split
  · decide +kernel
  · obtain ⟨q, h1, h2⟩ := div_word false (R_top (n.toNat * O))
    rw [ofInt_word n h, h2]
    exact order_self false h1
theorem seconds_any (n : Int) (w : World) (h : 0 ≤ n) (h1 : n ≤ 18446744073709551615) : Calls Try.prog 26 #[.int .u64 n] w fun e w' => e = .returned (.float .f64 (secW n)) ∧ w = w' := by
  by_cases hn : n = 18446744073709551615
  · have e : secW n = 0x7FF0000000000000 := if_pos hn
    rw [e]; subst hn
    go_enter Try.func26, Try.ntmps26
    go_wp2_with (go_at_call 31; refine (inf_any _).mono ?_; rintro e w' ⟨rfl, rfl⟩)
    all_goals (go_ret; exact ⟨rfl, rfl⟩)
  · have hd := secW_div n h hn
    have hq : ∀ t w, (binOp .quo t (.float .f64 (floatOfInt .f64 n)) (.float .f64 4652007308841189376)).run Try.prog w = .ok (.float .f64 (secW n)) w := fun t w => run_float_arith w .quo t .f64 _ _ _ hd
    clear hd
    generalize secW n = z at *
    go_enter Try.func26, Try.ntmps26
    go_wp2_with (simp only [hq])
    all_goals (go_ret; exact ⟨rfl, rfl⟩)
theorem seconds_ref (n : Int) (w : World) (h : 0 ≤ n) (h1 : n ≤ 18446744073709551615) : Calls Try.prog 27 #[.int .u64 n] w fun e w' => e = .returned (.float .f64 (secW n)) ∧ w = w' := by
  by_cases hn : n = 18446744073709551615
  · have e : secW n = dw 2000 := by rw [dw_end]; exact if_pos hn
    rw [e]; subst hn
    have hm : ∀ i t w, (binOp .mul t (.float .f64 (dw i)) (.float .f64 4611686018427387904)).run Try.prog w = .ok (.float .f64 (dw (i + 1))) w := fun i t w => run_float_arith w .mul t .f64 _ _ _ (dw_step i)
    have h0 := dw_zero
    clear e h h1
    generalize dw = D at *
    go_enter Try.func27, Try.ntmps27
    go_wp2_with (simp only [hm])
    go_loopw [3, 4] (fun b i wr => ∃ k : Nat, k ≤ 2000 ∧ b = .float .f64 (D k) ∧ i = .int .i64 k ∧ wr = w) (fun _ i _ => 2000 - (intOf i).toNat)
    case atStart => exact ⟨0, by omega, by rw [h0], rfl, rfl⟩
    case round =>
      obtain ⟨k, hk, rfl, rfl, rfl⟩ := hrel
      have HK := Lib.hid hk; clear hk
      by_cases hlt : (k : Int) < 2000
      · go_wp2_with (simp only [hm])
        go_roundw
        case rel => exact ⟨k + 1, by omega, rfl, by go_num, trivial⟩
        case measure => simp only [intOf]; omega
      · have hk2 : k = 2000 := by have := HK.out; omega
        clear hlt HK
        subst hk2
        go_wp2
        go_ret
        exact ⟨rfl, rfl⟩
  · have hd := secW_div n h hn
    have hq : ∀ t w, (binOp .quo t (.float .f64 (floatOfInt .f64 n)) (.float .f64 4652007308841189376)).run Try.prog w = .ok (.float .f64 (secW n)) w := fun t w => run_float_arith w .quo t .f64 _ _ _ hd
    clear hd
    generalize secW n = z at *
    go_enter Try.func27, Try.ntmps27
    go_wp2_with (simp only [hq])
    all_goals (go_ret; exact ⟨rfl, rfl⟩)

theorem fromS_any (b x y : Nat) (l g : Bool) (c : Int) (w : World) (hm : floatBits .mul .f64 b 4652007308841189376 = some x) (hx : isNum x = true) (hy : Ieee.double.write ((Ieee.double.read x).integral .up) = y)
    (hn : (FloatKind.f64.format.order b b != some .eq) = false) (hl : (FloatKind.f64.format.order b 0 == some .lt) = l)
    (hg : l = false → (FloatKind.f64.format.order y 4895412794951729152 == some .gt || FloatKind.f64.format.order y 4895412794951729152 == some .eq) = g)
    (hc : l = false → g = false → floatToIntVal .f64 y .u64 = some c) :
    Calls Try.prog 28 #[.float .f64 b] w fun e w' => e = .returned (if l then .tuple #[.int .u64 0, .int .i64 2] else if g then .tuple #[.int .u64 18446744073709551615, .int .i64 0] else .tuple #[.int .u64 c, .int .i64 0]) ∧ w = w' := by
  have hop : ∀ t w, (binOp .mul t (.float .f64 b) (.float .f64 4652007308841189376)).run Try.prog w = .ok (.float .f64 x) w := fun t w => run_float_arith w .mul t .f64 _ _ _ hm
  have hce := fun w => ceil_any x w hx
  rw [hy] at hce
  cases l
  · have hg' := hg rfl
    cases g
    · have hcv : ∀ w, (convert 47 22 (.float .f64 y)).run Try.prog w = .ok (.int .u64 c) w := fun w => run_convert_float_int w 47 22 .f64 .u64 y c (by rw [Try.underlying47]; rfl) Try.underlying22 (hc rfl rfl)
      clear hm hx hy hg hc
      go_enter Try.func28, Try.ntmps28
      go_wp2_with (first
        | (go_at_call 32; refine (hce _).mono ?_; rintro e w' ⟨rfl, rfl⟩)
        | (go_at_call 33; refine (isNaN_any _ _).mono ?_; rintro e w' ⟨rfl, rfl⟩; simp only [hn])
        | simp only [hop] | simp only [hcv] | simp only [hl] | simp only [hg'])
      all_goals (go_ret2; exact ⟨rfl, rfl⟩)
    · clear hm hx hy hg hc
      go_enter Try.func28, Try.ntmps28
      go_wp2_with (first
        | (go_at_call 32; refine (hce _).mono ?_; rintro e w' ⟨rfl, rfl⟩)
        | (go_at_call 33; refine (isNaN_any _ _).mono ?_; rintro e w' ⟨rfl, rfl⟩; simp only [hn])
        | simp only [hop] | simp only [hl] | simp only [hg'])
      all_goals (go_ret2; exact ⟨rfl, rfl⟩)
  · clear hm hx hy hg hc
    go_enter Try.func28, Try.ntmps28
    go_wp2_with (first
      | (go_at_call 32; refine (hce _).mono ?_; rintro e w' ⟨rfl, rfl⟩)
      | (go_at_call 33; refine (isNaN_any _ _).mono ?_; rintro e w' ⟨rfl, rfl⟩; simp only [hn])
      | simp only [hop] | simp only [hl])
    all_goals (go_ret2; exact ⟨rfl, rfl⟩)

theorem fromS_none (b : Nat) (w : World) (h : isNum b = false) :
    Calls Try.prog 28 #[.float .f64 b] w fun e w' => e = .returned (.tuple #[.int .u64 0, .int .i64 2]) ∧ Below w.heap.size w w' := by
  have hd : ∃ s t, Ieee.double.read b = .nan s t := by
    unfold isNum at h
    generalize Ieee.double.read b = d at *
    cases d
    · cases h
    · cases h
    · exact ⟨_, _, rfl⟩
  obtain ⟨s, t, hd⟩ := hd
  have hn : (FloatKind.f64.format.order b b != some .eq) = true := by
    have : FloatKind.f64.format.order b b = none := by
      show (Ieee.double.read b).order (Ieee.double.read b) = none
      rw [hd]; rfl
    rw [this]; rfl
  have hm0 : Ieee.double.mul b 4652007308841189376 = none := by
    show ((Ieee.double.read b).product _).map _ = none
    rw [hd]; rfl
  have hop : ∀ t (w : World), ∃ x w', (binOp .mul t (.float .f64 b) (.float .f64 4652007308841189376)).run Try.prog w = .ok (.float .f64 x) w' ∧ (w' = w ∨ w' = w.drew) := by
    intro t w
    have e : binOp .mul t (.float .f64 b) (.float .f64 4652007308841189376) = (do
        let x ← choose (.nanBits .f64 b 4652007308841189376)
        pure (.float .f64 x) : Sem Value) := by
      have : binOp .mul t (.float .f64 b) (.float .f64 4652007308841189376) = Op.floatArith .mul .f64 b 4652007308841189376 := by simp [binOp]
      rw [this]
      unfold Op.floatArith
      have : FloatKind.f64.format.mul b 4652007308841189376 = none := hm0
      simp only [this, pure_bind]
    rw [e]
    simp only [Sem.run_bind, run_choose_drew]
    split
    · exact ⟨_, _, rfl, .inl rfl⟩
    · exact ⟨_, _, rfl, .inr rfl⟩
  have hce : ∀ x w, Calls Try.prog 32 #[.float .f64 x] w fun e w' => ∃ r, e = .returned (.float .f64 r) ∧ Below w.heap.size w w' := by
    intro x w
    cases hx : isNum x
    · exact ceil_none x w hx
    · exact (ceil_any x w hx).mono (by rintro e w' ⟨rfl, rfl⟩; exact ⟨_, rfl, Below.refl _ _⟩)
  obtain ⟨x, w1, h1, h2⟩ := hop 47 w
  have hb : Below w.heap.size w w1 := by
    rcases h2 with rfl | rfl
    · exact Below.refl _ _
    · exact (Below.refl _ _).drew
  have HB := Lib.hid hb
  have hz : w.heap.size ≤ w1.heap.size := by
    rcases h2 with rfl | rfl <;> exact Nat.le_refl _
  have HZ := Lib.hid hz
  clear h hd hm0 hop h2 hb hz
  go_enter Try.func28, Try.ntmps28
  go_wp2_with (first
    | (go_at_call 32; refine (hce _ _).mono ?_; rintro e w' ⟨r, rfl, hb2⟩)
    | (go_at_call 33; refine (isNaN_any _ _).mono ?_; rintro e w' ⟨rfl, rfl⟩; simp only [hn])
    | simp only [h1])
  all_goals (go_ret2; exact ⟨rfl, HB.out.trans (hb2.mono HZ.out)⟩)

theorem fromS_ref_none (b : Nat) (w : World) (h : isNum b = false) :
    Calls Try.prog 29 #[.float .f64 b] w fun e w' => e = .returned (.tuple #[.int .u64 0, .int .i64 2]) ∧ w = w' := by
  have hd : ∃ s t, Ieee.double.read b = .nan s t := by
    unfold isNum at h
    generalize Ieee.double.read b = d at *
    cases d
    · cases h
    · cases h
    · exact ⟨_, _, rfl⟩
  obtain ⟨s, t, hd⟩ := hd
  have hn : (FloatKind.f64.format.order b b != some .eq) = true := by
    have : FloatKind.f64.format.order b b = none := by
      show (Ieee.double.read b).order (Ieee.double.read b) = none
      rw [hd]; rfl
    rw [this]; rfl
  clear h hd
  go_enter Try.func29, Try.ntmps29
  go_wp2_with (simp only [hn])
  all_goals (go_ret2; exact ⟨rfl, rfl⟩)
theorem fromS_ref (b x : Nat) (l g q : Bool) (c : Int) (w : World) (hm : floatBits .mul .f64 b 4652007308841189376 = some x)
    (hn : (FloatKind.f64.format.order b b != some .eq) = false) (hl : (FloatKind.f64.format.order b 0 == some .lt) = l)
    (hg : l = false → (FloatKind.f64.format.order x 4895412794951729152 == some .gt || FloatKind.f64.format.order x 4895412794951729152 == some .eq) = g)
    (hc : l = false → g = false → floatToIntVal .f64 x .u64 = some c) (hq : l = false → g = false → (FloatKind.f64.format.order (floatOfInt .f64 c) x == some .lt) = q)
    (h0 : 0 ≤ c) (h1 : c + (if q then 1 else 0) ≤ 18446744073709551615) :
    Calls Try.prog 29 #[.float .f64 b] w fun e w' => e = .returned (if l then .tuple #[.int .u64 0, .int .i64 2] else if g then .tuple #[.int .u64 18446744073709551615, .int .i64 0] else .tuple #[.int .u64 (c + (if q then 1 else 0)), .int .i64 0]) ∧ w = w' := by
  have hop : ∀ t w, (binOp .mul t (.float .f64 b) (.float .f64 4652007308841189376)).run Try.prog w = .ok (.float .f64 x) w := fun t w => run_float_arith w .mul t .f64 _ _ _ hm
  cases l
  · have hg' := hg rfl
    cases g
    · have hcv : ∀ w, (convert 47 22 (.float .f64 x)).run Try.prog w = .ok (.int .u64 c) w := fun w => run_convert_float_int w 47 22 .f64 .u64 x c (by rw [Try.underlying47]; rfl) Try.underlying22 (hc rfl rfl)
      have hq' := hq rfl rfl
      clear hm hg hc hq
      cases q
      · simp only [Bool.false_eq_true, if_false, Int.add_zero] at h1 ⊢
        go_enter Try.func29, Try.ntmps29
        go_wp2_with (first | simp only [hn] | simp only [hop] | simp only [hcv] | simp only [hl] | simp only [hg'] | simp only [hq'])
        all_goals (go_ret2; exact ⟨rfl, rfl⟩)
      · simp only [Bool.false_eq_true, if_false, if_true] at h1 ⊢
        go_enter Try.func29, Try.ntmps29
        go_wp2_with (first | simp only [hn] | simp only [hop] | simp only [hcv] | simp only [hl] | simp only [hg'] | simp only [hq'])
        all_goals (go_ret2; exact ⟨rfl, rfl⟩)
    · clear hm hg hc hq
      go_enter Try.func29, Try.ntmps29
      go_wp2_with (first | simp only [hn] | simp only [hop] | simp only [hl] | simp only [hg'])
      all_goals (go_ret2; exact ⟨rfl, rfl⟩)
  · clear hm hg hc hq
    go_enter Try.func29, Try.ntmps29
    go_wp2_with (first | simp only [hn] | simp only [hop] | simp only [hl])
    all_goals (go_ret2; exact ⟨rfl, rfl⟩)
end Go.Proofs.Ytfjjmmaddcofkaa
