/- Choose beside the document's. -/
import Derived.Test.YtojempihchlgfaaDoorG
namespace Go.Proofs.YtojempihchlgfaaDoor
open Go.RowKit
set_option linter.unusedSimpArgs false
set_option linter.unusedVariables false

def okF (n a d : Int) : Bool := (bits .and .i64 (feat d) n == n) && (bits .and .i64 (feat d) a == 0)
def stp (n a f b : Int) : Bool := (!(n / b % 2 == 1) || f / b % 2 == 1) && (!(a / b % 2 == 1) || !(f / b % 2 == 1))
def okR (n a d : Int) : Bool := stp n a (feat d) 1 && stp n a (feat d) 2 && stp n a (feat d) 4 && stp n a (feat d) 8
theorem ok_same (n a d : Int) (n0 : 0 ≤ n) (n1 : n ≤ 15) (a0 : 0 ≤ a) (a1 : a ≤ 15) (d0 : 1 ≤ d) (d1 : d ≤ 4) : okF n a d = okR n a d := by
  have h : ∀ x y : Fin 16, ∀ z : Fin 5, okF (x.val : Int) (y.val : Int) (z.val : Int) = okR (x.val : Int) (y.val : Int) (z.val : Int) := by decide +kernel
  have := h ⟨n.toNat, by omega⟩ ⟨a.toNat, by omega⟩ ⟨d.toNat, by omega⟩
  simpa [Int.toNat_of_nonneg n0, Int.toNat_of_nonneg a0, Int.toNat_of_nonneg (show 0 ≤ d by omega)] using this
/-- The greatest driver from k down that is fine; 0: none. -/
def chd (ok : Int → Bool) : Nat → Int
  | 0 => 0
  | k + 1 => if ok ((k + 1 : Nat) : Int) then ((k + 1 : Nat) : Int) else chd ok k
theorem chd_congr (p q : Int → Bool) (k : Nat) (h : ∀ j : Nat, 1 ≤ j → j ≤ k → p j = q j) : chd p k = chd q k := by
  induction k with
  | zero => rfl
  | succ k ih => rw [chd, chd, h (k + 1) (by omega) (by omega), ih (fun j h1 h2 => h j h1 (by omega))]
theorem chd_bd (p : Int → Bool) (k : Nat) : 0 ≤ chd p k ∧ chd p k ≤ k := by
  induction k with
  | zero => simp [chd]
  | succ k ih => rw [chd]; split <;> omega
/-- The error beside it. -/
def chE (d : Int) : Int := if d = 0 then 51 else 0
def fOk (n a : Int) (l : List Int) (d : Int) : Bool := okF n a d && !decide (d ∈ l)
def rOk (n a : Int) (l : List Int) (d : Int) : Bool := okR n a d && !decide (d ∈ l)
theorem choose_same (n a : Int) (l : List Int) (n0 : 0 ≤ n) (n1 : n ≤ 15) (a0 : 0 ≤ a) (a1 : a ≤ 15) : chd (fOk n a l) 4 = chd (rOk n a l) 4 :=
  chd_congr _ _ _ fun j h1 h2 => by unfold fOk rOk; rw [ok_same n a j n0 n1 a0 a1 (by omega) (by omega)]

theorem feat_bd (d : Int) : 0 ≤ feat d ∧ feat d ≤ 15 := by unfold feat; split <;> (try split) <;> (try split) <;> omega

set_option maxHeartbeats 2000000 in
theorem choose_in (n a : Int) (A : Option Addr) (c : Nat) (l : List Int) (w : World) (hw : Wd w) (hs : Hs w) (hz : Ints .i64 w A l) (hl : l.length ≤ 50) (hc : l.length ≤ c) (n0 : 0 ≤ n) (n1 : n ≤ 15) (a0 : 0 ≤ a) (a1 : a ≤ 15) :
    Calls Tryd.prog 14 #[.int .i64 n, .int .i64 a, .slice A l.length c] w fun e w' => e = .returned (.tuple #[.int .i64 (chd (fOk n a l) 4), .int .i64 (chE (chd (fOk n a l) 4))]) ∧ w = w' := by
  have HZ := Lib.hid hz; clear hz
  have HW := Lib.hid hw; clear hw
  have HS := Lib.hid hs; clear hs
  have x1 : bits .andNot .i64 n 15 = 0 := (andnot15 n (by omega) (by omega)).2 ⟨n0, n1⟩
  have x2 : bits .andNot .i64 a 15 = 0 := (andnot15 a (by omega) (by omega)).2 ⟨a0, a1⟩
  generalize hg : chd (fOk n a l) 4 = g
  have HG := Lib.hid hg; clear hg
  go_enter Tryd.func14, Tryd.ntmps14
  go_wp2_with (go_at_call 32; refine (many1 _ HW.out).mono ?_; rintro e w' ⟨rfl, rfl⟩)
  go_loop [9] (fun i => ∃ k : Nat, k ≤ 4 ∧ i = .int .i64 k ∧ chd (fOk n a l) k = g) (fun i => (intOf i).toNat)
  case atStart => exact ⟨4, by omega, rfl, HG.out⟩
  case round =>
    obtain ⟨k, hk, rfl, h⟩ := hrel
    cases k with
    | zero =>
      have hg : (0 : Int) = g := h
      subst hg
      go_wp2_with fail
      go_ret2
      exact ⟨rfl, rfl⟩
    | succ k =>
      rw [chd] at h
      cases e : fOk n a l ((k + 1 : Nat) : Int)
      · rw [e] at h
        simp only [Bool.false_eq_true, if_false] at h
        have H := Lib.hid h; clear h
        unfold fOk okF at e
        have E := Lib.hid e; clear e
        have hcast : ((k + 1 : Nat) : Int) = (k : Int) + 1 := by omega
        rw [hcast] at E ⊢
        cases e1 : (bits .and .i64 (feat ((k : Int) + 1)) n == n) <;> cases e2 : (bits .and .i64 (feat ((k : Int) + 1)) a == 0) <;> cases e3 : decide ((k : Int) + 1 ∈ l)
        all_goals
          have E2 := E.out
          rw [e1, e2, e3] at E2
          first
            | (exfalso; simp at E2; done)
            | skip
        all_goals
          clear E2
          have E3 := Lib.hid e3; clear e3
          go_wp2_with (first
            | (go_at_call 16; refine (features_any _ _ HS.out).mono ?_; rintro e w' ⟨rfl, rfl⟩)
            | (go_at_call 34; refine (contains_any _ A c l _ HZ.out (by omega) hc).mono ?_; rintro e w' ⟨he, rfl⟩; rw [E3.out] at he; subst he))
          go_round
          case rel => exact ⟨k, by omega, by go_num, H.out⟩
          case measure => simp [intOf]
      · rw [e] at h
        simp only [if_true] at h
        have H := Lib.hid h; clear h
        unfold fOk okF at e
        have hcast : ((k + 1 : Nat) : Int) = (k : Int) + 1 := by omega
        rw [hcast] at e ⊢
        simp only [Bool.and_eq_true, Bool.not_eq_true'] at e
        obtain ⟨⟨e1, e2⟩, e3⟩ := e
        have E3 := Lib.hid e3; clear e3
        go_wp2_with (first
          | (go_at_call 16; refine (features_any _ _ HS.out).mono ?_; rintro e w' ⟨rfl, rfl⟩)
          | (go_at_call 34; refine (contains_any _ A c l _ HZ.out (by omega) hc).mono ?_; rintro e w' ⟨he, rfl⟩; rw [E3.out] at he; subst he))
        go_ret2
        have hne : ¬ ((k + 1 : Nat) : Int) = 0 := by omega
        exact ⟨by rw [← H.out, chE, if_neg hne, hcast]; rfl, rfl⟩
theorem choose_out (n a : Int) (A : Option Addr) (c len : Nat) (w : World) (hw : Wd w) (wn : (Lit.int .i64 n).wf = true) (wa : (Lit.int .i64 a).wf = true) (h : (n < 0 ∨ 15 < n) ∨ (a < 0 ∨ 15 < a)) :
    Calls Tryd.prog 14 #[.int .i64 n, .int .i64 a, .slice A len c] w fun e w' => e = .returned (.tuple #[.int .i64 0, .int .i64 50]) ∧ w = w' := by
  have HW := Lib.hid hw; clear hw
  have x1 := andnot15 n (bd_i64 wn).1 (bd_i64 wn).2
  have x2 := andnot15 a (bd_i64 wa).1 (bd_i64 wa).2
  clear wn wa
  cases e1 : (bits .andNot .i64 n 15 != 0) <;> cases e2 : (bits .andNot .i64 a 15 != 0)
  · exfalso
    simp at e1 e2
    have := x1.1 e1; have := x2.1 e2; omega
  all_goals
    clear x1 x2 h
    go_enter Tryd.func14, Tryd.ntmps14
    go_wp2_with (go_at_call 32; refine (many1 _ HW.out).mono ?_; rintro e w' ⟨rfl, rfl⟩)
    go_ret2
    exact ⟨rfl, rfl⟩
end Go.Proofs.YtojempihchlgfaaDoor
