/- in, Same, Of, Some. -/
import Derived.Test.YtljfnfaljadjdaaDoorB
namespace Go.Proofs.YtljfnfaljadjdaaDoor
open Go.RowKit
set_option linter.unusedSimpArgs false
set_option linter.unusedVariables false
set_option maxRecDepth 100000

theorem mem_take_step (l : List Int) (n : Int) (k : Nat) (hk : k < l.length) (h : n ∉ l.take k) (hne : l[k] ≠ n) : n ∉ l.take (k + 1) := by
  rw [List.take_succ_eq_append_getElem hk]
  intro h1
  rcases List.mem_append.1 h1 with h1 | h1
  · exact h h1
  · exact hne (List.mem_singleton.1 h1).symm

theorem getD_get (l : List Int) (k : Nat) (h : k < l.length) : l.getD k 0 = l[k] := by simp [List.getD, h]

set_option maxHeartbeats 1000000 in
theorem in_any (n : Int) (A : Option Addr) (c : Nat) (l : List Int) (w : World) (hz : Ints .i64 w A l) (hl : l.length ≤ 300) (hc : l.length ≤ c) :
    Calls Tryd.prog 47 #[.int .i64 n, .slice A l.length c] w fun e w' => e = .returned (.bool (decide (n ∈ l))) ∧ w = w' := by
  have HZ := Lib.hid hz; clear hz
  generalize hg : decide (n ∈ l) = g
  have HG := Lib.hid hg; clear hg
  go_enter Tryd.func47, Tryd.ntmps47
  go_wp2
  go_loop [5] (fun i => ∃ k : Nat, k ≤ l.length ∧ i = .int .i64 k ∧ n ∉ l.take k) (fun i => l.length - (intOf i).toNat)
  case atStart => exact ⟨0, Nat.zero_le _, rfl, by simp⟩
  case round =>
    obtain ⟨k, hk, rfl, h⟩ := hrel
    have H := Lib.hid h; clear h
    by_cases hlt : k < l.length
    · obtain ⟨b, off, rfl, hb, hcc⟩ := HZ.out (by omega)
      have hck := hcc k hlt
      clear hcc
      rw [getD_get l k hlt] at hck
      have H1 := Lib.hid (mem_take_step l n k hlt H.out)
      have HM := Lib.hid (List.getElem_mem hlt)
      generalize hx : l[k] = x at hck H1 HM
      clear hx
      by_cases he : x = n
      · subst he
        go_wp2
        go_ret
        exact ⟨by rw [← HG.out, decide_eq_true HM.out]; rfl, rfl⟩
      · have H2 := Lib.hid (H1.out he)
        go_wp2
        go_round
        case rel => exact ⟨k + 1, by omega, by go_num, H2.out⟩
        case measure => simp [intOf]; omega
    · go_wp2
      go_ret
      have := H.out
      rw [List.take_of_length_le (by omega)] at this
      exact ⟨by rw [← HG.out, decide_eq_false this]; rfl, rfl⟩

theorem same_step (l m : List Int) (k : Nat) (hk : k < l.length) (hk' : k < m.length) (h : l.take k = m.take k) (he : l[k] = m[k]) : l.take (k + 1) = m.take (k + 1) := by
  rw [List.take_succ_eq_append_getElem hk, List.take_succ_eq_append_getElem hk', h, he]

set_option maxHeartbeats 1000000 in
theorem Same_eq (A B : Option Addr) (c d q : Nat) (l m : List Int) (w : World) (hz : Ints .i64 w A l) (hy : Ints .i64 w B m) (hl : l.length = q) (hm : m.length = q) (hq : q ≤ 300) (hc : q ≤ c) (hd : q ≤ d) :
    Calls Tryd.prog 41 #[.slice A q c, .slice B q d] w fun e w' => e = .returned (.bool (decide (l = m))) ∧ ∃ n, w' = w.drewN n := by
  have HZ := Lib.hid hz; clear hz
  have HY := Lib.hid hy; clear hy
  have HL := Lib.hid hl; clear hl
  have HM := Lib.hid hm; clear hm
  generalize hg : decide (l = m) = g
  have HG := Lib.hid hg; clear hg
  go_enter Tryd.func41, Tryd.ntmps41
  go_wp2
  go_loopw [5] (fun i wr => ∃ k n : Nat, k ≤ q ∧ i = .int .i64 k ∧ l.take k = m.take k ∧ wr = w.drewN n) (fun i _ => q - (intOf i).toNat)
  case atStart => exact ⟨0, 0, Nat.zero_le _, rfl, by simp, rfl⟩
  case round =>
    obtain ⟨k, n, hk, rfl, h, rfl⟩ := hrel
    have H := Lib.hid h; clear h
    by_cases hlt : k < q
    · have hltl : k < l.length := by rw [HL.out]; exact hlt
      have hltm : k < m.length := by rw [HM.out]; exact hlt
      obtain ⟨b, off, rfl, hb, hcc⟩ := HZ.out (by omega)
      obtain ⟨b', off', rfl, hb', hcc'⟩ := HY.out (by omega)
      have hck := hcc k hltl
      have hck' := hcc' k hltm
      clear hcc hcc'
      rw [getD_get l k hltl] at hck
      rw [getD_get m k hltm] at hck'
      have H1 := Lib.hid (same_step l m k hltl hltm H.out)
      have HE := Lib.hid (show l = m → l[k] = m[k] by intro h; subst h; rfl)
      generalize hx : l[k] = x at hck H1 HE
      generalize hy : m[k] = y at hck' H1 HE
      clear hx hy hltl hltm
      by_cases he : x = y
      · subst he
        have H2 := Lib.hid (H1.out rfl)
        go_wp2
        go_quiet (fail)
        go_wp2
        go_roundw
        case rel => exact ⟨k + 1, n + nq, by omega, by go_num, H2.out, rfl⟩
        case measure => simp [intOf]; omega
      · go_wp2
        go_quiet (fail)
        go_wp2
        go_ret
        exact ⟨by rw [← HG.out, decide_eq_false (fun h => he (HE.out h))]; rfl, n + nq, by simp⟩
    · go_wp2
      go_ret
      have := H.out
      have hL := HL.out
      have hM := HM.out
      rw [List.take_of_length_le (by omega), List.take_of_length_le (by omega)] at this
      exact ⟨by rw [← HG.out, decide_eq_true this]; rfl, _, rfl⟩

theorem Same_any (A B : Option Addr) (c d : Nat) (l m : List Int) (w : World) (hz : Ints .i64 w A l) (hy : Ints .i64 w B m) (hl : l.length ≤ 300) (hm : m.length ≤ 300) (hc : l.length ≤ c) (hd : m.length ≤ d) :
    Calls Tryd.prog 41 #[.slice A l.length c, .slice B m.length d] w fun e w' => e = .returned (.bool (decide (l = m))) ∧ ∃ n, w' = w.drewN n := by
  by_cases hll : l.length = m.length
  · rw [← hll]
    exact Same_eq A B c d l.length l m w hz hy rfl hll.symm hl hc (by omega)
  · have HZ := Lib.hid hz; clear hz
    have HY := Lib.hid hy; clear hy
    generalize hg : decide (l = m) = g
    have HG := Lib.hid hg; clear hg
    go_enter Tryd.func41, Tryd.ntmps41
    go_wp2
    go_ret
    exact ⟨by rw [← HG.out, decide_eq_false (fun h => hll (by rw [h]))]; rfl, 0, rfl⟩

theorem same_any (A B : Option Addr) (c d : Nat) (l m : List Int) (w : World) (hz : Ints .i64 w A l) (hy : Ints .i64 w B m) (hl : l.length ≤ 300) (hm : m.length ≤ 300) (hc : l.length ≤ c) (hd : m.length ≤ d) :
    Calls Tryd.prog 28 #[.slice A l.length c, .slice B m.length d] w fun e w' => e = .returned (.bool (decide (l = m))) ∧ Below w.heap.size w w' := by
  have HZ := Lib.hid hz; clear hz
  have HY := Lib.hid hy; clear hy
  generalize hg : decide (l = m) = g
  have HG := Lib.hid hg; clear hg
  go_enter Tryd.func28, Tryd.ntmps28
  go_wp2_with fail
  refine (Same_any A B c d l m w HZ.out HY.out hl hm hc hd).mono ?_
  rintro e w' ⟨rfl, n, rfl⟩
  rw [HG.out]
  go_wp2
  go_ret
  exact ⟨rfl, below_drewN (Below.refl _ _) _⟩

/-- A call that hands back a list of numbers and an error. -/
def RetO (l : List Int) (x : Int) (w : World) (e : Ending) (w' : World) : Prop := ∃ A c, e = .returned (.tuple #[.slice A l.length c, .int .i64 x]) ∧ l.length ≤ c ∧ Ints .i64 w' A l ∧ Below w.heap.size w w'
theorem Build.retO {w wr : World} {base : Nat} {v : Value} {l : List Int} (h : Build w wr base v l) (hB : w.heap.size ≤ base) : RetO l 0 w (.returned (.tuple #[v, .int .i64 0])) wr := by
  obtain ⟨A, c, rfl, hc⟩ := row_form h.row
  exact ⟨A, c, rfl, hc, row_ints h.row, h.bel.mono hB⟩

/-- Is n in l? -/
def inL (l : List Int) (n : Nat) : Bool := decide ((n : Int) ∈ l)

theorem all_take_step (l : List Int) (p : Int → Prop) (k : Nat) (hk : k < l.length) (h : ∀ x ∈ l.take k, p x) (he : p l[k]) : ∀ x ∈ l.take (k + 1), p x := by
  rw [List.take_succ_eq_append_getElem hk]
  intro x hx
  rcases List.mem_append.1 hx with h1 | h1
  · exact h x h1
  · rw [List.mem_singleton.1 h1]; exact he

set_option maxHeartbeats 2000000 in
theorem of_ok (A : Option Addr) (c : Nat) (l : List Int) (w : World) (hz : Ints .i64 w A l) (hl : l.length ≤ 300) (hc : l.length ≤ c) (hin : ∀ x ∈ l, 0 ≤ x ∧ x < 64) :
    Calls Tryd.prog 37 #[.slice A l.length c] w (RetO (lst (inL l) 64) 0 w) := by
  have HZ := Lib.hid hz; clear hz
  have HIN := Lib.hid hin; clear hin
  obtain ⟨i3, hi3, hz3, hs3, hy3⟩ := info_parts info3
  have I3 := Lib.hid hi3; have Z3 := Lib.hid hz3; have S3 := Lib.hid hs3; have Y3 := Lib.hid hy3
  clear hi3 hz3 hs3 hy3
  have T0 : Build w w w.heap.size (.slice none 0 0) [] := ⟨World.ownsRow_nil _ _ _ _, Nat.le_refl _, Below.refl _ _⟩
  go_enter Tryd.func37, Tryd.ntmps37
  go_wp2
  go_loop [5] (fun i => ∃ k : Nat, k ≤ l.length ∧ i = .int .i64 k) (fun i => l.length - (intOf i).toNat)
  case atStart => exact ⟨0, Nat.zero_le _, rfl⟩
  case round =>
    obtain ⟨k, hk, rfl⟩ := hrel
    by_cases hlt : k < l.length
    · obtain ⟨b, off, rfl, hb, hcc⟩ := HZ.out (by omega)
      have hck := hcc k hlt
      clear hcc
      rw [getD_get l k hlt] at hck
      have hb2 := HIN.out _ (List.getElem_mem hlt)
      generalize hx : l[k] = x at hck hb2
      clear hx
      obtain ⟨hb2, hb3⟩ := hb2
      go_wp2
      go_round
      case rel => exact ⟨k + 1, by omega, by go_num⟩
      case measure => simp [intOf]; omega
    · go_wp2
      go_loopw [4, 6] (fun v i wr => ∃ m : Nat, m ≤ 64 ∧ i = .int .i64 m ∧ Build w wr w.heap.size v (lst (inL l) m)) (fun _ i _ => (64 - intOf i).toNat)
      case atStart => exact ⟨0, by omega, rfl, T0⟩
      case round =>
        obtain ⟨m, m1, rfl, T⟩ := hrel
        by_cases hle : m < 64
        · have hlen := lst_len (inL l) m
          have HZ1 := Lib.hid (Ints.below HZ.out T.bel)
          go_wp2_with fail
          refine (in_any m A c l _ HZ1.out hl hc).mono ?_
          rintro e w1 ⟨he, rfl⟩
          by_cases hp : inL l m = true
          · rw [show decide ((m : Int) ∈ l) = true from hp] at he
            subst he
            go_wp2_with (at_builtin; refine wpList_append_own _ rfl (.tmp 34) (.tmp 36) 31 rfl w.heap.size 3 i3 (.int .i64 0) 1 8 Tryd.underlying31 I3.out Z3.out S3.out Y3.out rfl (by decide) _ _ _ rfl (T.row.alloc _) ⟨_, 0, none⟩ 1 1 [.int .i64 m] rfl rfl (cell_one_new _ _ _) (by simp [Value.oneCell']) (by unfold maxLen; omega) (by omega) (by have := T.sz; simp; omega) ?_; intro v' w2 hown hgrow _; have T2 := T.put hown hgrow; clear hown hgrow)
            go_roundw
            case rel => exact ⟨m + 1, by omega, by go_num, by rw [lst_yes _ _ hp]; exact T2⟩
            case measure => simp [intOf]; omega
          · have hp' : inL l m = false := by simpa using hp
            clear hp
            rw [show decide ((m : Int) ∈ l) = false from hp'] at he
            subst he
            go_wp2_with fail
            go_roundw
            case rel => exact ⟨m + 1, by omega, by go_num, by rw [lst_no _ _ hp']; exact T⟩
            case measure => simp [intOf]; omega
        · obtain rfl : m = 64 := by omega
          go_wp2_with fail
          go_ret2
          exact T.retO (Nat.le_refl _)
end Go.Proofs.YtljfnfaljadjdaaDoor
