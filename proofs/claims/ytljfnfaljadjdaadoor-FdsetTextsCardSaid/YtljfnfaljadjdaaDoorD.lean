/- Of that refuses, Some. -/
import Derived.Test.YtljfnfaljadjdaaDoorC
namespace Go.Proofs.YtljfnfaljadjdaaDoor
open Go.RowKit
set_option linter.unusedSimpArgs false
set_option linter.unusedVariables false

set_option maxHeartbeats 2000000 in
theorem of_bad (A : Option Addr) (c : Nat) (l : List Int) (w : World) (hz : Ints .i64 w A l) (hl : l.length ≤ 300) (hc : l.length ≤ c) (hin : ∃ x ∈ l, x < 0 ∨ 64 ≤ x) :
    Calls Tryd.prog 37 #[.slice A l.length c] w fun e w' => e = .returned (.tuple #[.slice none 0 0, .int .i64 10]) ∧ w = w' := by
  have HZ := Lib.hid hz; clear hz
  have HIN := Lib.hid hin; clear hin
  go_enter Tryd.func37, Tryd.ntmps37
  go_wp2
  go_loop [5] (fun i => ∃ k : Nat, k ≤ l.length ∧ i = .int .i64 k ∧ ∀ x ∈ l.take k, 0 ≤ x ∧ x < 64) (fun i => l.length - (intOf i).toNat)
  case atStart => exact ⟨0, Nat.zero_le _, rfl, by simp⟩
  case round =>
    obtain ⟨k, hk, rfl, h⟩ := hrel
    have H := Lib.hid h; clear h
    by_cases hlt : k < l.length
    · obtain ⟨b, off, rfl, hb, hcc⟩ := HZ.out (by omega)
      have hck := hcc k hlt
      clear hcc
      rw [getD_get l k hlt] at hck
      have H1 := Lib.hid (all_take_step l (fun x => 0 ≤ x ∧ x < 64) k hlt H.out)
      generalize hx : l[k] = x at hck H1
      clear hx
      rcases (show x < 0 ∨ (0 ≤ x ∧ 64 ≤ x) ∨ (0 ≤ x ∧ x < 64) by omega) with h | ⟨h, h'⟩ | ⟨h, h'⟩
      · go_wp2
        go_ret2
        exact ⟨rfl, rfl⟩
      · go_wp2
        go_ret2
        exact ⟨rfl, rfl⟩
      · have H2 := Lib.hid (H1.out ⟨h, h'⟩)
        go_wp2
        go_round
        case rel => exact ⟨k + 1, by omega, by go_num, H2.out⟩
        case measure => simp [intOf]; omega
    · exfalso
      obtain ⟨x, hx, hx2⟩ := HIN.out
      have := H.out x (by rw [List.take_of_length_le (by omega)]; exact hx)
      omega

/-- Some, 1. -/
def some1P (l m : List Int) (n : Nat) : Bool := (inL l n || inL m n)

/-- Some, 3. -/
def some3P (l m : List Int) (n : Nat) : Bool := (inL l n && inL m n)

/-- Some, 4. -/
def some4P (l m : List Int) (n : Nat) : Bool := (inL l n && !inL m n)

end Go.Proofs.YtljfnfaljadjdaaDoor
