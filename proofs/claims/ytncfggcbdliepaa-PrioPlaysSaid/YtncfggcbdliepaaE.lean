/- List, New. -/
import Derived.Test.YtncfggcbdliepaaD
import Derived.Carry
namespace Go.Proofs.Ytncfggcbdliepaa
open Go.RowKit
set_option linter.unusedSimpArgs false
set_option linter.unusedVariables false
set_option maxRecDepth 100000

theorem row_out {m : Nat} {L : List It} (ho : Ok m L) {p : Int} (h : ¬ (0 ≤ p ∧ p < m)) : row L p = [] := by
  refine List.filter_eq_nil_iff.2 fun t ht => ?_
  have := ho.b t ht
  simp
  rintro rfl
  exact h ⟨this.2.2.2.2.2.2.1, this.2.2.2.2.2.2.2⟩

set_option maxHeartbeats 2000000 in
theorem List_any (w : World) (g : Nat) (S : Nat → Prop) (N m : Nat) (L : List It) (p : Int) (h : Qw w g S N m L) (hN : N ≤ 100000) :
    Calls Try.prog 14 #[.pointer (some ⟨g, 0, none⟩), .int .i64 p] w fun e w' => (∃ v', e = .returned v' ∧ w'.ownsRow w.heap.size 35 3 v' (row L p).length (flat (row L p))) ∧ Below w.heap.size w w' := by
  by_cases hp : 0 ≤ p ∧ p < m
  · have IS := Lib.hid (is_any w g S N m L p h true (by simpa using hp))
    obtain ⟨k, rfl⟩ := Int.eq_ofNat_of_zero_le hp.1
    have hk : k < m := by omega
    obtain ⟨lb, mb, D, vs, h, hS⟩ := h
    obtain ⟨c0, c1⟩ := h.cells
    obtain ⟨v, hv, cv, -, hrow⟩ := h.cell k hk
    have hm := h.m8.2
    have CL := Lib.hid (Clone_any v (row L k) w hrow (by have := row_len L k; have := h.ln; omega))
    clear h hS hv hrow hp
    generalize (row L k).length = n at *
    generalize flat (row L k) = xs at *
    go_enter Try.func14, Try.ntmps14
    go_wp2_with (go_at_call 28; refine IS.out.mono ?_; rintro e w1 ⟨rfl, rfl⟩)
    refine CL.out.mono ?_
    rintro e w2 ⟨⟨v', rfl, r2⟩, b2⟩
    go_wp2_with fail
    go_ret
    exact ⟨⟨_, rfl, r2⟩, b2⟩
  · have IS := Lib.hid (is_any w g S N m L p h false (by simpa using hp))
    rw [row_out h.ok hp]
    clear h hp
    go_enter Try.func14, Try.ntmps14
    go_wp2_with (go_at_call 28; refine IS.out.mono ?_; rintro e w1 ⟨rfl, rfl⟩)
    go_ret
    exact ⟨⟨_, rfl, World.ownsRow_nil _ _ _ _⟩, Below.refl _ _⟩

theorem New_bad (c : Int) (w : World) (h : c < 1 ∨ 8 < c) : Calls Try.prog 9 #[.int .i64 c] w fun e w' => e = .returned (.tuple #[.pointer none, .int .i64 2]) ∧ w = w' := by
  by_cases h1 : c < 1
  case' neg =>
    have h1 : 1 ≤ c := by omega
    have h2 : 8 < c := by omega
  all_goals
    clear h
    go_enter Try.func9, Try.ntmps9
    go_wp2_with fail
    go_ret2
    exact ⟨rfl, rfl⟩

theorem info32 : (Try.prog.info? 32).map (fun i => (i.zero, i.size, i.bytes)) = some (some (.slice none 0 0), 1, 24) := by kernel_rfl
theorem Qb_new (w : World) (lb m : Nat) (h1 : 1 ≤ m) (h8 : m ≤ 8) (hl : w.heap[lb]? = some (.cells (List.replicate m (.slice none 0 0)).toArray 32 (0, 0))) :
    Qb ((w.alloc (.map #[] 0)).alloc (.cells #[.slice (some ⟨lb, 0, none⟩) m m, .map (some w.heap.size)] 65)) (w.heap.size + 1) lb w.heap.size 0 (.map []) (List.replicate m (.slice none 0 0)) m [] := by
  have hlt := lt_of_block hl
  have hv : ∀ (p : Nat) (v : Value), (List.replicate m (Value.slice none 0 0))[p]? = some v → v = .slice none 0 0 := fun p v h => by
    have := List.mem_of_getElem? h
    exact (List.mem_replicate.1 this).2
  refine ⟨?_, ?_, List.length_replicate, fun p v h => ?_, ?_, fun x _ => rfl, fun x t h => by simp [look] at h, ⟨by omega, by omega, by omega⟩, fun p v b h e => ?_, fun p p' v v' b h _ e _ => ?_, Ok.nil m, Nat.le_refl _, h1, h8⟩
  · have := new_block (w.alloc (.map #[] 0)) (.cells #[.slice (some ⟨lb, 0, none⟩) m m, .map (some w.heap.size)] 65)
    simpa using this
  · exact (Below.heap_alloc _ _ _ (by simp; omega)).trans ((Below.heap_alloc _ _ _ hlt).trans hl)
  · rw [hv p v h]
    exact World.ownsRow_nil _ _ _ _
  · have := World.ownsMap_made w Try.prog 3 (plainElem (H := Unit) Try.prog 3)
    exact this.alloc _
  · rw [hv p v h] at e; cases e
  · rw [hv p v h] at e; cases e
theorem New_ok (m : Nat) (w : World) (h1 : 1 ≤ m) (h8 : m ≤ 8) : Calls Try.prog 9 #[.int .i64 m] w fun e w' => (∃ g S, e = .returned (.tuple #[.pointer (some ⟨g, 0, none⟩), .int .i64 0]) ∧
    Qw w' g S 0 m [] ∧ ∀ b, S b → w.heap.size ≤ b) ∧ Below w.heap.size w w' := by
  obtain ⟨i32, hi, hz, hs, hy⟩ := info_parts info32
  have hmm := @run_makeMap Try.prog
  go_enter Try.func9, Try.ntmps9
  go_wp2_with (refine wpList_make_full _ (by rfl) (.tmp 10) (.tmp 10) 62 (by rfl) w.heap.size 32 i32 (.slice none 0 0) 1 Try.underlying62 hi hz hs .i64 .i64 (m : Int) (m : Int) m (by rfl) (by rfl) rfl rfl (by rw [hy]; omega) (by unfold maxLen; omega) (Nat.le_refl _) ?_; intro w1 hown hgr)
  have hl : w1.heap[w.heap.size]? = some (.cells (List.replicate m (.slice none 0 0)).toArray 32 (0, 0)) := by
    rcases hown.2 with ⟨h, _⟩ | ⟨g, cap, cur, h, _, hh, hc, _, hcs, ht⟩
    · cases h
    · injection h with h _ h2; injection h with h; injection h with h
      subst h h2
      rw [hh]
      have : cur.toList = List.replicate m (.slice none 0 0) := by
        rw [List.take_of_length_le (by simp [hcs])] at ht
        rw [ht]
        simp only [madeCells, Value.cells, Nat.mul_one]
        refine List.eq_replicate_iff.2 ⟨by simp, fun b hb => ?_⟩
        simp [Nat.mod_one] at hb
        exact hb.2.symm
      rw [← this]
  have q := Qb_new w1 w.heap.size m h1 h8 hl
  have B1 : Below w.heap.size w w1 := (Below.refl _ w).grown hgr (Nat.le_refl _) (fun k e => by cases e)
  go_wp2_with fail
  go_ret2
  have hlt := lt_of_block hl
  refine ⟨⟨_, _, rfl, ⟨_, _, _, _, q, fun b => Iff.rfl⟩, fun b hb => ?_⟩, (B1.alloc B1.size _).alloc (by simp; omega) _⟩
  rcases hb with rfl | rfl | rfl | ⟨v, hv, e⟩
  · omega
  · omega
  · omega
  · rw [(List.mem_replicate.1 hv).2] at e; cases e
end Go.Proofs.Ytncfggcbdliepaa
