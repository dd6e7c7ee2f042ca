/- The law of the order. -/
import Derived.Test.YtfjjmmaddcofkaaD
namespace Go.Proofs.Ytfjjmmaddcofkaa
open Go.RowKit
set_option linter.unusedSimpArgs false
set_option linter.unusedVariables false

theorem deadline_mono (now a b : Int) (h : a ≤ b) (h0 : 0 ≤ now) (h1 : b ≤ 18446744073709551615) : deadline now a ≤ deadline now b := by
  unfold deadline; repeat' split
  all_goals omega
theorem left_mono (now a b : Int) (h : a ≤ b) (h0 : 0 ≤ now) (h1 : b ≤ 18446744073709551615) : left now a ≤ left now b := by
  unfold left; repeat' split
  all_goals omega
theorem foldl_min_le (l : List Int) (m : Int) : l.foldl (fun a b => if b < a then b else a) m ≤ m ∧ ∀ x ∈ l, l.foldl (fun a b => if b < a then b else a) m ≤ x := by
  induction l generalizing m with
  | nil => simp
  | cons y l ih =>
    simp only [List.foldl_cons]
    have h := ih (if y < m then y else m)
    have e1 : (if y < m then y else m) ≤ m := by split <;> omega
    have e2 : (if y < m then y else m) ≤ y := by split <;> omega
    refine ⟨Int.le_trans h.1 e1, fun x hx => ?_⟩
    rcases List.mem_cons.1 hx with rfl | hx
    · exact Int.le_trans h.1 e2
    · exact h.2 x hx
theorem least_le (l : List Int) (x : Int) (hx : x ∈ l) : least l ≤ x := (foldl_min_le l _).2 x hx
theorem least_hi (l : List Int) : least l ≤ 18446744073709551615 := (foldl_min_le l _).1
theorem foldl_min_ge (l : List Int) (m c : Int) (hm : c ≤ m) (h : ∀ x ∈ l, c ≤ x) : c ≤ l.foldl (fun a b => if b < a then b else a) m := by
  induction l generalizing m with
  | nil => simpa
  | cons y l ih =>
    simp only [List.foldl_cons]
    refine ih _ ?_ (fun x hx => h x (List.mem_cons_of_mem _ hx))
    have := h y List.mem_cons_self
    split <;> omega
theorem least_lo (l : List Int) (h : ∀ x ∈ l, 0 ≤ x) : 0 ≤ least l := foldl_min_ge l _ 0 (by omega) h
/-- The wait for the least of some deadlines passes none of them. -/
theorem passes (now m x : Int) (h0 : 0 ≤ now) (h1 : now ≤ 18446744073709551615) (hm : m ≤ x) (hx : x ≤ 18446744073709551615) (hm0 : 0 ≤ m) : deadline now (wait (left now m) false) ≤ now ∨ deadline now (wait (left now m) false) ≤ x := by
  unfold deadline left; simp only [wait, Bool.false_eq_true, if_false]; repeat' split
  all_goals omega

theorem quiet_add_left {P : Program} {f : FuncId} {args : Array Value} {w : World} {a n : Nat} {v : Value}
    (h : Calls P f args (w.drewN (a + n)) fun e w' => e = .returned v ∧ w.drewN (a + n) = w') :
    Calls P f args (w.drewN (a + n)) fun e w'' => e = .returned v ∧ ∃ m, w'' = w.drewN (a + m) :=
  h.mono fun _ _ ⟨he, hm⟩ => ⟨he, n, hm.symm⟩

set_option maxHeartbeats 2000000 in
theorem order_walk (now a b : Int) (ad : Option Addr) (cap : Nat) (zs : List Int) (w : World) (h0 : 0 ≤ now) (h1 : now ≤ 18446744073709551615) (a0 : 0 ≤ a) (a1 : a ≤ 18446744073709551615) (b0 : 0 ≤ b) (b1 : b ≤ 18446744073709551615)
    (hz : Ints .u64 w ad zs) (hcap : zs.length ≤ cap) (hm : zs.length ≤ 9223372036854775807) (hwf : ∀ n ∈ zs, (Lit.int .u64 n).wf = true) :
    Calls Try.prog 5 #[.int .u64 now, .int .u64 a, .int .u64 b, .slice ad zs.length cap] w fun e w' => e = .returned (.bool true) ∧ Below w.heap.size w w' := by
  have HZ := Lib.hid hz; clear hz
  have HF := Lib.hid hwf; clear hwf
  by_cases hl : zs.length ≤ 100
  · have hl0 := least_lo zs (fun x hx => (bd_u64 (HF.out x hx)).1)
    have hl1 := least_hi zs
    obtain ⟨f0, f1⟩ := left_bd now (least zs) h0 hl1
    have wv : 0 ≤ wait (left now (least zs)) false ∧ wait (left now (least zs)) false ≤ 18446744073709551615 := by
      rcases wait_cases _ f0 with h | h <;> omega
    obtain ⟨wv0, wv1⟩ := wv
    have HP := Lib.hid (fun x (hx : x ∈ zs) => passes now (least zs) x h0 h1 (least_le zs x hx) (bd_u64 (HF.out x hx)).2 hl0)
    generalize hv : wait (left now (least zs)) false = v at *
    have HV := Lib.hid hv; clear hv
    obtain ⟨a', b', hab, ha0, ha1, hb0, hb1, HE⟩ : ∃ a' b' : Int, a' ≤ b' ∧ 0 ≤ a' ∧ a' ≤ 18446744073709551615 ∧ 0 ≤ b' ∧ b' ≤ 18446744073709551615 ∧ Hid ((b < a ∧ a' = b ∧ b' = a) ∨ (a ≤ b ∧ a' = a ∧ b' = b)) := by
      by_cases h : b < a
      · exact ⟨b, a, by omega, by omega, by omega, by omega, by omega, .inl ⟨h, rfl, rfl⟩⟩
      · exact ⟨a, b, by omega, by omega, by omega, by omega, by omega, .inr ⟨by omega, rfl, rfl⟩⟩
    have m1 := deadline_mono now a' b' hab h0 hb1
    have m2 := left_mono now a' b' hab h0 hb1
    rcases HE.out with ⟨hlt, rfl, rfl⟩ | ⟨hge, rfl, rfl⟩
    all_goals
      go_enter Try.func5, Try.ntmps5
      go_wp2_with (first
        | (go_at_call 25; refine (alive_any _).mono ?_; rintro e w' ⟨rfl, rfl⟩)
        | (go_at_call 9; refine (deadline_any _ _ _ h0 h1 (by assumption) (by assumption)).mono ?_; rintro e w' ⟨rfl, rfl⟩)
        | (go_at_call 11; refine (left_any _ _ _ h0 h1 (by assumption) (by assumption)).mono ?_; rintro e w' ⟨rfl, rfl⟩)
        | (go_at_call 13; refine (least_any _ _ _ _ HZ.out hl hcap).mono ?_; rintro e w' ⟨rfl, rfl⟩)
        | (go_at_call 15; refine (wait_any _ _ _ f0 f1).mono ?_; rintro e w' ⟨he, rfl⟩; rw [HV.out] at he; subst he))
      go_loopw [11] (fun i wr => ∃ k n : Nat, k ≤ zs.length ∧ i = .int .i64 k ∧ wr = w.drewN n) (fun i _ => zs.length - (intOf i).toNat)
      case atStart => exact ⟨0, 0, Nat.zero_le _, rfl, rfl⟩
      case round =>
        obtain ⟨k, n, hk, rfl, rfl⟩ := hrel
        by_cases hlt : k < zs.length
        · obtain ⟨bl, off, rfl, hb, hc⟩ := HZ.out (by omega)
          have hck := hc k hlt
          clear hc
          have hpk := HP.out zs[k] (List.getElem_mem hlt)
          obtain ⟨z0, z1⟩ := bd_u64 (HF.out zs[k] (List.getElem_mem hlt))
          go_wp2
          go_quiet ((go_at_call 9; exact quiet_add_left (deadline_any _ _ _ h0 h1 wv0 wv1)))
          go_wp2
          go_roundw
          case rel => exact ⟨k + 1, n + nq, by omega, by go_num, rfl⟩
          case measure => simp [intOf]; omega
        · go_wp2
          go_ret
          exact ⟨rfl, below_drewN (Below.refl _ _) _⟩
  · go_enter Try.func5, Try.ntmps5
    go_wp2_with (go_at_call 25; refine (alive_any _).mono ?_; rintro e w' ⟨rfl, rfl⟩)
    go_ret
    exact ⟨rfl, Below.refl _ _⟩

theorem order_top (now a b : Int) (ad : Option Addr) (len cap : Nat) (z : List Int) (w : World) (w0 : (Lit.int .u64 now).wf = true) (w1 : (Lit.int .u64 a).wf = true) (w2 : (Lit.int .u64 b).wf = true) (w3 : IsRow .u64 w ad len cap z) :
    Calls Try.prog 5 #[.int .u64 now, .int .u64 a, .int .u64 b, .slice ad len cap] w fun e w' => e = .returned (.bool true) ∧ Below w.heap.size w w' := by
  obtain ⟨l, rfl, hc, hm, hi, hf⟩ := w3.ints
  exact order_walk now a b ad cap l w (bd_u64 w0).1 (bd_u64 w0).2 (bd_u64 w1).1 (bd_u64 w1).2 (bd_u64 w2).1 (bd_u64 w2).2 hi hc (by unfold maxLen at hm; omega) hf
end Go.Proofs.Ytfjjmmaddcofkaa
