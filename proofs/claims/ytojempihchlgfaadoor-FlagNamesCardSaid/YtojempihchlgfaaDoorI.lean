/- The document's Choose. -/
import Derived.Test.YtojempihchlgfaaDoorH
namespace Go.Proofs.YtojempihchlgfaaDoor
open Go.RowKit
set_option linter.unusedSimpArgs false
set_option linter.unusedVariables false

/-- What the inner loop knows: the bit, and whether all is fine so far. -/
def Bt (n a f : Int) (b : Value) (fine : Value) : Prop :=
  (b = .int .i64 1 ∧ fine = .bool true) ∨ (b = .int .i64 2 ∧ fine = .bool (stp n a f 1)) ∨ (b = .int .i64 4 ∧ fine = .bool (stp n a f 1 && stp n a f 2)) ∨
  (b = .int .i64 8 ∧ fine = .bool (stp n a f 1 && stp n a f 2 && stp n a f 4)) ∨ (b = .int .i64 16 ∧ fine = .bool (stp n a f 1 && stp n a f 2 && stp n a f 4 && stp n a f 8))
theorem Bt.cases {n a f : Int} {b fine : Value} (h : Bt n a f b fine) :
    (∃ (x : Int) (F : Bool), b = .int .i64 x ∧ fine = .bool F ∧ 1 ≤ x ∧ x ≤ 8 ∧ Bt n a f (.int .i64 (x * 2)) (.bool (F && stp n a f x))) ∨
    (b = .int .i64 16 ∧ fine = .bool (stp n a f 1 && stp n a f 2 && stp n a f 4 && stp n a f 8)) := by
  rcases h with ⟨rfl, rfl⟩ | ⟨rfl, rfl⟩ | ⟨rfl, rfl⟩ | ⟨rfl, rfl⟩ | ⟨rfl, rfl⟩
  · exact .inl ⟨1, true, rfl, rfl, by omega, by omega, .inr (.inl ⟨rfl, by simp⟩)⟩
  · exact .inl ⟨2, _, rfl, rfl, by omega, by omega, .inr (.inr (.inl ⟨rfl, rfl⟩))⟩
  · exact .inl ⟨4, _, rfl, rfl, by omega, by omega, .inr (.inr (.inr (.inl ⟨rfl, rfl⟩)))⟩
  · exact .inl ⟨8, _, rfl, rfl, by omega, by omega, .inr (.inr (.inr (.inr ⟨rfl, rfl⟩)))⟩
  · exact .inr ⟨rfl, rfl⟩

theorem rchoose_out (n a : Int) (A : Option Addr) (c len : Nat) (w : World) (h : (n < 0 ∨ 15 < n) ∨ (a < 0 ∨ 15 < a)) :
    Calls Tryd.prog 15 #[.int .i64 n, .int .i64 a, .slice A len c] w fun e w' => e = .returned (.tuple #[.int .i64 0, .int .i64 50]) ∧ w = w' := by
  cases e1 : decide (n < 0) <;> cases e2 : decide (15 < n) <;> cases e3 : decide (a < 0) <;> cases e4 : decide (15 < a)
  all_goals
    simp only [decide_eq_true_eq, decide_eq_false_iff_not] at e1 e2 e3 e4
    first
      | (exfalso; omega)
      | (clear h
         go_enter Tryd.func15, Tryd.ntmps15
         go_wp2_with fail
         go_ret2
         exact ⟨rfl, rfl⟩)

set_option maxHeartbeats 4000000 in
theorem rchoose_in (n a : Int) (A : Option Addr) (c : Nat) (l : List Int) (w : World) (hz : Ints .i64 w A l) (hl : l.length ≤ 50) (hc : l.length ≤ c) (n0 : 0 ≤ n) (n1 : n ≤ 15) (a0 : 0 ≤ a) (a1 : a ≤ 15) :
    Calls Tryd.prog 15 #[.int .i64 n, .int .i64 a, .slice A l.length c] w fun e w' => e = .returned (.tuple #[.int .i64 (chd (rOk n a l) 4), .int .i64 (chE (chd (rOk n a l) 4))]) ∧ w = w' := by
  have HZ := Lib.hid hz; clear hz
  generalize hg : chd (rOk n a l) 4 = g
  have HG := Lib.hid hg; clear hg
  go_enter Tryd.func15, Tryd.ntmps15
  go_wp2
  go_loop [8] (fun i => ∃ k : Nat, k ≤ 4 ∧ i = .int .i64 k ∧ chd (rOk n a l) k = g) (fun i => (intOf i).toNat)
  case atStart => exact ⟨4, by omega, rfl, HG.out⟩
  case round =>
    obtain ⟨k, hk, rfl, h⟩ := hrel
    cases k with
    | zero =>
      have hg : (0 : Int) = g := h
      subst hg
      go_wp2_with fail
      go_ret2
      exact ⟨rfl, rfl⟩
    | succ k =>
      rw [chd] at h
      have H := Lib.hid h; clear h
      have hcast : ((k + 1 : Nat) : Int) = (k : Int) + 1 := by omega
      have HC := Lib.hid hcast
      obtain ⟨d, hd⟩ : ∃ d : Int, d = ((k + 1 : Nat) : Int) := ⟨_, rfl⟩
      have d1 : 1 ≤ d := by omega
      have d2 : d ≤ 4 := by omega
      have HD := Lib.hid hd
      rw [← hd]
      clear hd hcast
      obtain ⟨f0, f1⟩ := feat_bd d
      go_wp2_with fail
      go_loop [9, 10] (fun fine b => Bt n a (feat d) b fine) (fun _ b => 16 - (intOf b).toNat)
      case atStart => exact .inl ⟨rfl, rfl⟩
      case round =>
        rcases hrel.cases with ⟨x, F, rfl, rfl, x0, x1, nxt⟩ | ⟨rfl, rfl⟩
        · have NX := Lib.hid nxt; clear nxt hrel
          unfold stp at NX
          cases F <;> cases k1 : (n / x % 2 == 1) <;> cases k2 : (feat d / x % 2 == 1) <;> cases k3 : (a / x % 2 == 1)
          all_goals
            have NY := NX.out
            rw [k1, k2, k3] at NY
            simp only [Bool.not_true, Bool.not_false, Bool.true_or, Bool.false_or, Bool.or_true, Bool.or_false, Bool.and_true, Bool.and_false, Bool.true_and, Bool.false_and] at NY
            have NZ := Lib.hid NY; clear NY NX
            have K1 := Lib.hid k1; have K2 := Lib.hid k2; have K3 := Lib.hid k3
            clear k1 k2 k3
            go_wp2_with (first
              | (go_at_call 17; refine (rfeatures_any _ _).mono ?_; rintro e w' ⟨rfl, rfl⟩)
              | (go_at_call 33; refine (bit_any _ _ _ (by omega) (by omega) (by omega) (by omega)).mono ?_; rintro e w' ⟨he, rfl⟩; (first | rw [K1.out] at he | rw [K2.out] at he | rw [K3.out] at he); subst he))
            go_round
            case rel => exact NZ.out
            case measure => simp [intOf]; omega
        · clear hrel
          have hok : (stp n a (feat d) 1 && stp n a (feat d) 2 && stp n a (feat d) 4 && stp n a (feat d) 8) = okR n a d := rfl
          rw [hok]
          clear hok
          go_wp2_with fail
          go_loop [9, 11] (fun fine i => ∃ j : Nat, j ≤ l.length ∧ i = .int .i64 j ∧ fine = .bool (okR n a d && !decide (d ∈ l.take j))) (fun _ i => l.length - (intOf i).toNat)
          case atStart => exact ⟨0, Nat.zero_le _, rfl, by simp⟩
          case round =>
            obtain ⟨j, hj, rfl, rfl⟩ := hrel
            by_cases hlt : j < l.length
            · obtain ⟨b, off, rfl, hb, hcc⟩ := HZ.out (by omega)
              have hck := hcc j hlt
              clear hcc
              rw [igetD l j hlt] at hck
              have hst : decide (d ∈ l.take (j + 1)) = (decide (d ∈ l.take j) || decide (l[j] = d)) := by
                rw [List.take_succ_eq_append_getElem hlt, Bool.eq_iff_iff]
                simp only [decide_eq_true_eq, Bool.or_eq_true, List.mem_append, List.mem_singleton]
                constructor
                · rintro (h | h)
                  · exact .inl h
                  · exact .inr h.symm
                · rintro (h | h)
                  · exact .inl h
                  · exact .inr h.symm
              have HST := Lib.hid hst; clear hst
              generalize hx : l[j] = y at hck HST
              clear hx
              have hnx : (okR n a d && !decide (d ∈ l.take (j + 1))) = ((okR n a d && !decide (d ∈ l.take j)) && (y != d)) := by
                rw [HST.out]
                generalize okR n a d = o
                generalize decide (d ∈ l.take j) = t
                by_cases h : y = d <;> cases o <;> cases t <;> simp [h]
              have HNX := Lib.hid hnx; clear hnx HST
              generalize hzz : (okR n a d && !decide (d ∈ l.take j)) = z at HNX ⊢
              clear hzz
              cases z <;> cases hq : (y != d)
              all_goals
                have HNY := HNX.out
                rw [hq] at HNY
                simp only [Bool.and_true, Bool.and_false, Bool.true_and, Bool.false_and] at HNY
                have HNZ := Lib.hid HNY; clear HNY HNX
                go_wp2_with fail
                go_round
                case rel => exact ⟨j + 1, by omega, by go_num, by rw [HNZ.out]⟩
                case measure => simp [intOf]; omega
            · rw [List.take_of_length_le (by omega)]
              have hr : (okR n a d && !decide (d ∈ l)) = rOk n a l d := rfl
              rw [hr]
              clear hr
              have hH := H.out
              rw [← HD.out] at hH
              have HDK := Lib.hid (show d - 1 = (k : Int) by have := HD.out; omega)
              cases e : rOk n a l d
              · rw [e] at hH
                simp only [Bool.false_eq_true, if_false] at hH
                have H2 := Lib.hid hH; clear hH H
                go_wp2_with fail
                go_round
                case rel => exact ⟨k, by omega, by rw [HDK.out], H2.out⟩
                case measure => simp [intOf]; omega
              · rw [e] at hH
                simp only [if_true] at hH
                have H2 := Lib.hid hH; clear hH H
                go_wp2_with fail
                go_ret2
                have hne : ¬ d = 0 := by omega
                exact ⟨by rw [← H2.out, chE, if_neg hne]; rfl, rfl⟩
end Go.Proofs.YtojempihchlgfaaDoor
