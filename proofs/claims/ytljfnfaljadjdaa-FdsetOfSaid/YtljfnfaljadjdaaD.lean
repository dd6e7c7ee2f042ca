/- Of that refuses, Some. -/
import Derived.Test.YtljfnfaljadjdaaC
namespace Go.Proofs.Ytljfnfaljadjdaa
open Go.RowKit
set_option linter.unusedSimpArgs false
set_option linter.unusedVariables false

set_option maxHeartbeats 2000000 in
theorem of_bad (A : Option Addr) (c : Nat) (l : List Int) (w : World) (hz : Ints .i64 w A l) (hl : l.length ≤ 300) (hc : l.length ≤ c) (hin : ∃ x ∈ l, x < 0 ∨ 64 ≤ x) :
    Calls Try.prog 7 #[.slice A l.length c] w fun e w' => e = .returned (.tuple #[.slice none 0 0, .int .i64 10]) ∧ w = w' := by
  have HZ := Lib.hid hz; clear hz
  have HIN := Lib.hid hin; clear hin
  go_enter Try.func7, Try.ntmps7
  go_wp2
  go_loop [5] (fun i => ∃ k : Nat, k ≤ l.length ∧ i = .int .i64 k ∧ ∀ x ∈ l.take k, 0 ≤ x ∧ x < 64) (fun i => l.length - (intOf i).toNat)
  case atStart => exact ⟨0, Nat.zero_le _, rfl, by simp⟩
  case round =>
    obtain ⟨k, hk, rfl, h⟩ := hrel
    have H := Lib.hid h; clear h
    by_cases hlt : k < l.length
    · obtain ⟨b, off, rfl, hb, hcc⟩ := HZ.out (by omega)
      have hck := hcc k hlt
      clear hcc
      rw [getD_get l k hlt] at hck
      have H1 := Lib.hid (all_take_step l (fun x => 0 ≤ x ∧ x < 64) k hlt H.out)
      generalize hx : l[k] = x at hck H1
      clear hx
      rcases (show x < 0 ∨ (0 ≤ x ∧ 64 ≤ x) ∨ (0 ≤ x ∧ x < 64) by omega) with h | ⟨h, h'⟩ | ⟨h, h'⟩
      · go_wp2
        go_ret2
        exact ⟨rfl, rfl⟩
      · go_wp2
        go_ret2
        exact ⟨rfl, rfl⟩
      · have H2 := Lib.hid (H1.out ⟨h, h'⟩)
        go_wp2
        go_round
        case rel => exact ⟨k + 1, by omega, by go_num, H2.out⟩
        case measure => simp [intOf]; omega
    · exfalso
      obtain ⟨x, hx, hx2⟩ := HIN.out
      have := H.out x (by rw [List.take_of_length_le (by omega)]; exact hx)
      omega

/-- Some, 1. -/
def some1P (l m : List Int) (n : Nat) : Bool := (inL l n || inL m n)

set_option maxHeartbeats 4000000 in
theorem some1 (A B : Option Addr) (c d : Nat) (l r : List Int) (w : World) (hz : Ints .i64 w A l) (hy : Ints .i64 w B r) (hl : l.length ≤ 300) (hr : r.length ≤ 300) (hc : l.length ≤ c) (hd : r.length ≤ d) :
    Calls Try.prog 10 #[.slice A l.length c, .slice B r.length d, .int .i64 1] w (RetL (lst (some1P l r) 64) w) := by
  have HZ := Lib.hid hz; clear hz
  have HY := Lib.hid hy; clear hy
  obtain ⟨i3, hi3, hz3, hs3, hy3⟩ := info_parts info3
  have I3 := Lib.hid hi3; have Z3 := Lib.hid hz3; have S3 := Lib.hid hs3; have Y3 := Lib.hid hy3
  clear hi3 hz3 hs3 hy3
  have T0 : Build w w w.heap.size (.slice none 0 0) [] := ⟨World.ownsRow_nil _ _ _ _, Nat.le_refl _, Below.refl _ _⟩
  go_enter Try.func10, Try.ntmps10
  go_wp2
  go_loopw [7, 8] (fun v i wr => ∃ m : Nat, m ≤ 64 ∧ i = .int .i64 m ∧ Build w wr w.heap.size v (lst (some1P l r) m)) (fun _ i _ => (64 - intOf i).toNat)
  case atStart => exact ⟨0, by omega, rfl, T0⟩
  case round =>
    obtain ⟨m, m1, rfl, T⟩ := hrel
    by_cases hle : m < 64
    · have hlen := lst_len (some1P l r) m
      have HZ1 := Lib.hid (Ints.below HZ.out T.bel)
      have HY1 := Lib.hid (Ints.below HY.out T.bel)
      go_wp2_with fail
      refine (in_any m A c l _ HZ1.out hl hc).mono ?_
      rintro e w1 ⟨he, rfl⟩
      cases h1 : inL l m <;> cases h2 : inL r m
      all_goals
        rw [show decide ((m : Int) ∈ l) = _ from h1] at he
        subst he
        go_wp2_with fail
        refine (in_any m B d r _ HY1.out hr hd).mono ?_
        rintro e w1 ⟨he, rfl⟩
        rw [show decide ((m : Int) ∈ r) = _ from h2] at he
        subst he
        have HP := Lib.hid (show some1P l r m = _ from by unfold some1P; rw [h1, h2])
        have h1' := Lib.hid h1; have h2' := Lib.hid h2
        clear h1 h2
      all_goals
        go_wp2_with (at_builtin; refine wpList_append_own _ rfl (.tmp 47) (.tmp 49) 25 rfl w.heap.size 3 i3 (.int .i64 0) 1 8 Try.underlying25 I3.out Z3.out S3.out Y3.out rfl (by decide) _ _ _ rfl (T.row.alloc _) ⟨_, 0, none⟩ 1 1 [.int .i64 m] rfl rfl (cell_one_new _ _ _) (by simp [Value.oneCell']) (by unfold maxLen; omega) (by omega) (by have := T.sz; simp; omega) ?_; intro v' w2 hown hgrow _; have T2 := T.put hown hgrow; clear hown hgrow)
        go_roundw
        case rel => first
          | exact ⟨m + 1, by omega, by go_num, by rw [lst_yes _ _ HP.out]; exact T2⟩
          | exact ⟨m + 1, by omega, by go_num, by rw [lst_no _ _ HP.out]; exact T⟩
        case measure => simp [intOf]; omega
    · obtain rfl : m = 64 := by omega
      go_wp2_with fail
      go_ret
      exact T.ret (Nat.le_refl _)

/-- Some, 3. -/
def some3P (l m : List Int) (n : Nat) : Bool := (inL l n && inL m n)

set_option maxHeartbeats 4000000 in
theorem some3 (A B : Option Addr) (c d : Nat) (l r : List Int) (w : World) (hz : Ints .i64 w A l) (hy : Ints .i64 w B r) (hl : l.length ≤ 300) (hr : r.length ≤ 300) (hc : l.length ≤ c) (hd : r.length ≤ d) :
    Calls Try.prog 10 #[.slice A l.length c, .slice B r.length d, .int .i64 3] w (RetL (lst (some3P l r) 64) w) := by
  have HZ := Lib.hid hz; clear hz
  have HY := Lib.hid hy; clear hy
  obtain ⟨i3, hi3, hz3, hs3, hy3⟩ := info_parts info3
  have I3 := Lib.hid hi3; have Z3 := Lib.hid hz3; have S3 := Lib.hid hs3; have Y3 := Lib.hid hy3
  clear hi3 hz3 hs3 hy3
  have T0 : Build w w w.heap.size (.slice none 0 0) [] := ⟨World.ownsRow_nil _ _ _ _, Nat.le_refl _, Below.refl _ _⟩
  go_enter Try.func10, Try.ntmps10
  go_wp2
  go_loopw [7, 8] (fun v i wr => ∃ m : Nat, m ≤ 64 ∧ i = .int .i64 m ∧ Build w wr w.heap.size v (lst (some3P l r) m)) (fun _ i _ => (64 - intOf i).toNat)
  case atStart => exact ⟨0, by omega, rfl, T0⟩
  case round =>
    obtain ⟨m, m1, rfl, T⟩ := hrel
    by_cases hle : m < 64
    · have hlen := lst_len (some3P l r) m
      have HZ1 := Lib.hid (Ints.below HZ.out T.bel)
      have HY1 := Lib.hid (Ints.below HY.out T.bel)
      go_wp2_with fail
      refine (in_any m A c l _ HZ1.out hl hc).mono ?_
      rintro e w1 ⟨he, rfl⟩
      cases h1 : inL l m <;> cases h2 : inL r m
      all_goals
        rw [show decide ((m : Int) ∈ l) = _ from h1] at he
        subst he
        go_wp2_with fail
        refine (in_any m B d r _ HY1.out hr hd).mono ?_
        rintro e w1 ⟨he, rfl⟩
        rw [show decide ((m : Int) ∈ r) = _ from h2] at he
        subst he
        have HP := Lib.hid (show some3P l r m = _ from by unfold some3P; rw [h1, h2])
        have h1' := Lib.hid h1; have h2' := Lib.hid h2
        clear h1 h2
      all_goals
        go_wp2_with (at_builtin; refine wpList_append_own _ rfl (.tmp 47) (.tmp 49) 25 rfl w.heap.size 3 i3 (.int .i64 0) 1 8 Try.underlying25 I3.out Z3.out S3.out Y3.out rfl (by decide) _ _ _ rfl (T.row.alloc _) ⟨_, 0, none⟩ 1 1 [.int .i64 m] rfl rfl (cell_one_new _ _ _) (by simp [Value.oneCell']) (by unfold maxLen; omega) (by omega) (by have := T.sz; simp; omega) ?_; intro v' w2 hown hgrow _; have T2 := T.put hown hgrow; clear hown hgrow)
        go_roundw
        case rel => first
          | exact ⟨m + 1, by omega, by go_num, by rw [lst_yes _ _ HP.out]; exact T2⟩
          | exact ⟨m + 1, by omega, by go_num, by rw [lst_no _ _ HP.out]; exact T⟩
        case measure => simp [intOf]; omega
    · obtain rfl : m = 64 := by omega
      go_wp2_with fail
      go_ret
      exact T.ret (Nat.le_refl _)

/-- Some, 4. -/
def some4P (l m : List Int) (n : Nat) : Bool := (inL l n && !inL m n)

set_option maxHeartbeats 4000000 in
theorem some4 (A B : Option Addr) (c d : Nat) (l r : List Int) (w : World) (hz : Ints .i64 w A l) (hy : Ints .i64 w B r) (hl : l.length ≤ 300) (hr : r.length ≤ 300) (hc : l.length ≤ c) (hd : r.length ≤ d) :
    Calls Try.prog 10 #[.slice A l.length c, .slice B r.length d, .int .i64 4] w (RetL (lst (some4P l r) 64) w) := by
  have HZ := Lib.hid hz; clear hz
  have HY := Lib.hid hy; clear hy
  obtain ⟨i3, hi3, hz3, hs3, hy3⟩ := info_parts info3
  have I3 := Lib.hid hi3; have Z3 := Lib.hid hz3; have S3 := Lib.hid hs3; have Y3 := Lib.hid hy3
  clear hi3 hz3 hs3 hy3
  have T0 : Build w w w.heap.size (.slice none 0 0) [] := ⟨World.ownsRow_nil _ _ _ _, Nat.le_refl _, Below.refl _ _⟩
  go_enter Try.func10, Try.ntmps10
  go_wp2
  go_loopw [7, 8] (fun v i wr => ∃ m : Nat, m ≤ 64 ∧ i = .int .i64 m ∧ Build w wr w.heap.size v (lst (some4P l r) m)) (fun _ i _ => (64 - intOf i).toNat)
  case atStart => exact ⟨0, by omega, rfl, T0⟩
  case round =>
    obtain ⟨m, m1, rfl, T⟩ := hrel
    by_cases hle : m < 64
    · have hlen := lst_len (some4P l r) m
      have HZ1 := Lib.hid (Ints.below HZ.out T.bel)
      have HY1 := Lib.hid (Ints.below HY.out T.bel)
      go_wp2_with fail
      refine (in_any m A c l _ HZ1.out hl hc).mono ?_
      rintro e w1 ⟨he, rfl⟩
      cases h1 : inL l m <;> cases h2 : inL r m
      all_goals
        rw [show decide ((m : Int) ∈ l) = _ from h1] at he
        subst he
        go_wp2_with fail
        refine (in_any m B d r _ HY1.out hr hd).mono ?_
        rintro e w1 ⟨he, rfl⟩
        rw [show decide ((m : Int) ∈ r) = _ from h2] at he
        subst he
        have HP := Lib.hid (show some4P l r m = _ from by unfold some4P; rw [h1, h2])
        have h1' := Lib.hid h1; have h2' := Lib.hid h2
        clear h1 h2
      all_goals
        go_wp2_with (at_builtin; refine wpList_append_own _ rfl (.tmp 47) (.tmp 49) 25 rfl w.heap.size 3 i3 (.int .i64 0) 1 8 Try.underlying25 I3.out Z3.out S3.out Y3.out rfl (by decide) _ _ _ rfl (T.row.alloc _) ⟨_, 0, none⟩ 1 1 [.int .i64 m] rfl rfl (cell_one_new _ _ _) (by simp [Value.oneCell']) (by unfold maxLen; omega) (by omega) (by have := T.sz; simp; omega) ?_; intro v' w2 hown hgrow _; have T2 := T.put hown hgrow; clear hown hgrow)
        go_roundw
        case rel => first
          | exact ⟨m + 1, by omega, by go_num, by rw [lst_yes _ _ HP.out]; exact T2⟩
          | exact ⟨m + 1, by omega, by go_num, by rw [lst_no _ _ HP.out]; exact T⟩
        case measure => simp [intOf]; omega
    · obtain rfl : m = 64 := by omega
      go_wp2_with fail
      go_ret
      exact T.ret (Nat.le_refl _)
end Go.Proofs.Ytljfnfaljadjdaa
