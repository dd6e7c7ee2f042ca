/- in and Of on long lists; the reference's Parse, walked. -/
import Derived.Test.YtljfnfaljadjdaaDoorTe
import Derived.Test.YtljfnfaljadjdaaDoorTq
namespace Go.Proofs.YtljfnfaljadjdaaDoor
open Go.RowKit
set_option linter.unusedSimpArgs false
set_option linter.unusedVariables false
set_option maxRecDepth 100000

set_option maxHeartbeats 1000000 in
theorem in_big (n : Int) (A : Option Addr) (c : Nat) (l : List Int) (w : World) (hz : Ints .i64 w A l) (hl : l.length ≤ 100000) (hc : l.length ≤ c) :
    Calls Tryd.prog 47 #[.int .i64 n, .slice A l.length c] w fun e w' => e = .returned (.bool (decide (n ∈ l))) ∧ w = w' := by
  have HZ := Lib.hid hz; clear hz
  generalize hg : decide (n ∈ l) = g
  have HG := Lib.hid hg; clear hg
  go_enter Tryd.func47, Tryd.ntmps47
  go_wp2
  go_loop [5] (fun i => ∃ k : Nat, k ≤ l.length ∧ i = .int .i64 k ∧ n ∉ l.take k) (fun i => l.length - (intOf i).toNat)
  case atStart => exact ⟨0, Nat.zero_le _, rfl, by simp⟩
  case round =>
    obtain ⟨k, hk, rfl, h⟩ := hrel
    have H := Lib.hid h; clear h
    by_cases hlt : k < l.length
    · obtain ⟨b, off, rfl, hb, hcc⟩ := HZ.out (by omega)
      have hck := hcc k hlt
      clear hcc
      rw [getD_get l k hlt] at hck
      have H1 := Lib.hid (mem_take_step l n k hlt H.out)
      have HM := Lib.hid (List.getElem_mem hlt)
      generalize hx : l[k] = x at hck H1 HM
      clear hx
      by_cases he : x = n
      · subst he
        go_wp2
        go_ret
        exact ⟨by rw [← HG.out, decide_eq_true HM.out]; rfl, rfl⟩
      · have H2 := Lib.hid (H1.out he)
        go_wp2
        go_round
        case rel => exact ⟨k + 1, by omega, by go_num, H2.out⟩
        case measure => simp [intOf]; omega
    · go_wp2
      go_ret
      have := H.out
      rw [List.take_of_length_le (by omega)] at this
      exact ⟨by rw [← HG.out, decide_eq_false this]; rfl, rfl⟩

set_option maxHeartbeats 2000000 in
theorem of_big (A : Option Addr) (c : Nat) (l : List Int) (w : World) (hz : Ints .i64 w A l) (hl : l.length ≤ 100000) (hc : l.length ≤ c) (hin : ∀ x ∈ l, 0 ≤ x ∧ x < 64) :
    Calls Tryd.prog 37 #[.slice A l.length c] w (RetO (lst (inL l) 64) 0 w) := by
  have HZ := Lib.hid hz; clear hz
  have HIN := Lib.hid hin; clear hin
  obtain ⟨i3, hi3, hz3, hs3, hy3⟩ := info_parts info3
  have I3 := Lib.hid hi3; have Z3 := Lib.hid hz3; have S3 := Lib.hid hs3; have Y3 := Lib.hid hy3
  clear hi3 hz3 hs3 hy3
  have T0 : Build w w w.heap.size (.slice none 0 0) [] := ⟨World.ownsRow_nil _ _ _ _, Nat.le_refl _, Below.refl _ _⟩
  go_enter Tryd.func37, Tryd.ntmps37
  go_wp2
  go_loop [5] (fun i => ∃ k : Nat, k ≤ l.length ∧ i = .int .i64 k) (fun i => l.length - (intOf i).toNat)
  case atStart => exact ⟨0, Nat.zero_le _, rfl⟩
  case round =>
    obtain ⟨k, hk, rfl⟩ := hrel
    by_cases hlt : k < l.length
    · obtain ⟨b, off, rfl, hb, hcc⟩ := HZ.out (by omega)
      have hck := hcc k hlt
      clear hcc
      rw [getD_get l k hlt] at hck
      have hb2 := HIN.out _ (List.getElem_mem hlt)
      generalize hx : l[k] = x at hck hb2
      clear hx
      obtain ⟨hb2, hb3⟩ := hb2
      go_wp2
      go_round
      case rel => exact ⟨k + 1, by omega, by go_num⟩
      case measure => simp [intOf]; omega
    · go_wp2
      go_loopw [4, 6] (fun v i wr => ∃ m : Nat, m ≤ 64 ∧ i = .int .i64 m ∧ Build w wr w.heap.size v (lst (inL l) m)) (fun _ i _ => (64 - intOf i).toNat)
      case atStart => exact ⟨0, by omega, rfl, T0⟩
      case round =>
        obtain ⟨m, m1, rfl, T⟩ := hrel
        by_cases hle : m < 64
        · have hlen := lst_len (inL l) m
          have HZ1 := Lib.hid (Ints.below HZ.out T.bel)
          go_wp2_with fail
          refine (in_big m A c l _ HZ1.out hl hc).mono ?_
          rintro e w1 ⟨he, rfl⟩
          by_cases hp : inL l m = true
          · rw [show decide ((m : Int) ∈ l) = true from hp] at he
            subst he
            go_wp2_with (at_builtin; refine wpList_append_own _ rfl (.tmp 34) (.tmp 36) 31 rfl w.heap.size 3 i3 (.int .i64 0) 1 8 Tryd.underlying31 I3.out Z3.out S3.out Y3.out rfl (by decide) _ _ _ rfl (T.row.alloc _) ⟨_, 0, none⟩ 1 1 [.int .i64 m] rfl rfl (cell_one_new _ _ _) (by simp [Value.oneCell']) (by unfold maxLen; omega) (by omega) (by have := T.sz; simp; omega) ?_; intro v' w2 hown hgrow _; have T2 := T.put hown hgrow; clear hown hgrow)
            go_roundw
            case rel => exact ⟨m + 1, by omega, by go_num, by rw [lst_yes _ _ hp]; exact T2⟩
            case measure => simp [intOf]; omega
          · have hp' : inL l m = false := by simpa using hp
            clear hp
            rw [show decide ((m : Int) ∈ l) = false from hp'] at he
            subst he
            go_wp2_with fail
            go_roundw
            case rel => exact ⟨m + 1, by omega, by go_num, by rw [lst_no _ _ hp']; exact T⟩
            case measure => simp [intOf]; omega
        · obtain rfl : m = 64 := by omega
          go_wp2_with fail
          go_ret2
          exact T.retO (Nat.le_refl _)

end Go.Proofs.YtljfnfaljadjdaaDoor
