/- Move. -/
import Derived.Test.YtncfggcbdliepaaK
namespace Go.Proofs.Ytncfggcbdliepaa
open Go.RowKit
set_option linter.unusedSimpArgs false
set_option linter.unusedVariables false
set_option maxRecDepth 100000

set_option maxHeartbeats 4000000 in
theorem Move_none (w : World) (g : Nat) (S : Nat → Prop) (N m : Nat) (L : List It) (x pr : Int) (h : Qw w g S N m L) (hx : (Lit.int .i64 x).wf = true) (hl : look L x = none) :
    Calls Try.prog 17 #[.pointer (some ⟨g, 0, none⟩), .int .i64 x, .int .i64 pr] w fun e w' => e = .returned (.int .i64 2) ∧ Below w.heap.size w w' := by
  have MA := Lib.hid (Many_any w g S N m L h)
  have HA := Lib.hid (Has_no w g S N m L x h hx hl)
  have hm8 := h.m8
  have hm0 : ((m : Int) == 0) = false := by simp; omega
  clear h hx hl
  go_enter Try.func17, Try.ntmps17
  go_wp2_with (go_at_call 26; refine MA.out.mono ?_; rintro e w1 ⟨rfl, rfl⟩)
  refine HA.out.mono ?_
  rintro e w1 ⟨rfl, b1⟩
  have hw1 := b1.size
  go_wp2_with fail
  go_ret
  exact ⟨rfl, b1.alloc hw1 _⟩
set_option maxHeartbeats 4000000 in
theorem Move_bad (w : World) (g : Nat) (S : Nat → Prop) (N m : Nat) (L : List It) (t : It) (pr : Int) (h : Qw w g S N m L) (ht : t ∈ L) (hp : ¬ (0 ≤ pr ∧ pr < m)) :
    Calls Try.prog 17 #[.pointer (some ⟨g, 0, none⟩), .int .i64 t.id, .int .i64 pr] w fun e w' => e = .returned (.int .i64 2) ∧ Below w.heap.size w w' := by
  have MA := Lib.hid (Many_any w g S N m L h)
  have hb := h.ok.b t ht
  have HA := Lib.hid (Has_yes w g S N m L t.id t h (wf64 (by omega) hb.2.1) (look_mem h.ok ht))
  have hm8 := h.m8
  have hm0 : ((m : Int) == 0) = false := by simp; omega
  have IS := Lib.hid (fun (W : World) (hB : Below w.heap.size w W) => is_any W g S N m L pr (h.below hB) false (by simpa using hp))
  clear h hb ht hp
  go_enter Try.func17, Try.ntmps17
  go_wp2_with (go_at_call 26; refine MA.out.mono ?_; rintro e w1 ⟨rfl, rfl⟩)
  refine HA.out.mono ?_
  rintro e w1 ⟨rfl, b1⟩
  have hw1 := b1.size
  have B1 := Lib.hid b1
  clear b1
  go_wp2_with fail
  refine (IS.out _ (B1.out.alloc hw1 _)).mono ?_
  rintro e w2 ⟨rfl, rfl⟩
  go_wp2_with fail
  go_ret
  exact ⟨rfl, B1.out.alloc hw1 _⟩
set_option maxHeartbeats 4000000 in
theorem Move_stay (w : World) (g : Nat) (S : Nat → Prop) (N m : Nat) (L : List It) (t : It) (h : Qw w g S N m L) (ht : t ∈ L) :
    Calls Try.prog 17 #[.pointer (some ⟨g, 0, none⟩), .int .i64 t.id, .int .i64 t.pr] w fun e w' => e = .returned (.int .i64 0) ∧ Below w.heap.size w w' := by
  have MA := Lib.hid (Many_any w g S N m L h)
  have hb := h.ok.b t ht
  have HA := Lib.hid (Has_yes w g S N m L t.id t h (wf64 (by omega) hb.2.1) (look_mem h.ok ht))
  have hm8 := h.m8
  have hm0 : ((m : Int) == 0) = false := by simp; omega
  have IS := Lib.hid (fun (W : World) (hB : Below w.heap.size w W) => is_any W g S N m L t.pr (h.below hB) true (by simp; omega))
  have hne : (t.pr != t.pr) = false := by simp
  clear h hb ht
  go_enter Try.func17, Try.ntmps17
  go_wp2_with (go_at_call 26; refine MA.out.mono ?_; rintro e w1 ⟨rfl, rfl⟩)
  refine HA.out.mono ?_
  rintro e w1 ⟨rfl, b1⟩
  have hw1 := b1.size
  have B1 := Lib.hid b1
  clear b1
  go_wp2_with fail
  refine (IS.out _ (B1.out.alloc hw1 _)).mono ?_
  rintro e w2 ⟨rfl, rfl⟩
  go_wp2_with fail
  go_ret
  exact ⟨rfl, B1.out.alloc hw1 _⟩
end Go.Proofs.Ytncfggcbdliepaa
