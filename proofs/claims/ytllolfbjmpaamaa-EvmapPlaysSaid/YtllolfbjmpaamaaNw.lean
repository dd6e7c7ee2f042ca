/- New. -/
import Derived.Test.YtllolfbjmpaamaaNh
namespace Go.Proofs.Ytllolfbjmpaamaa
open Go.RowKit Go.Shelf
set_option linter.unusedSimpArgs false
set_option linter.unusedVariables false
set_option maxRecDepth 100000

theorem Qb_new (w : World) : Qb ((w.alloc (.map #[] 0)).alloc (.cells (Value.map (some w.heap.size) :: List.replicate 128 (.slice none 0 0)).toArray 69)) (w.heap.size + 1) w.heap.size 0 (.map []) (List.replicate 128 (.slice none 0 0)) [] := by
  have hv : ∀ (p : Nat) (v : Value), (List.replicate 128 (Value.slice none 0 0))[p]? = some v → v = .slice none 0 0 := fun p v h => by
    have := List.mem_of_getElem? h
    exact (List.mem_replicate.1 this).2
  refine ⟨?_, List.length_replicate, fun p v h => ?_, ?_, fun x _ => rfl, fun x _ => rfl, rfl, by omega, fun p v b h e => ?_, fun p p' v v' b h _ e _ => ?_, Ok.nil, Nat.le_refl _⟩
  · have := new_block (w.alloc (.map #[] 0)) (.cells (Value.map (some w.heap.size) :: List.replicate 128 (.slice none 0 0)).toArray 69)
    rw [World.size_alloc] at this
    exact this
  · rw [hv p v h]
    exact World.ownsRow_nil _ _ _ _
  · have := World.ownsMap_made w Try.prog 3 plR
    exact this.alloc _
  · rw [hv p v h] at e; cases e
  · rw [hv p v h] at e; cases e
theorem zero69 (w : World) : (zeroValue 69).run Try.prog w = .ok (.agg (Value.map none :: List.replicate 128 (.slice none 0 0)).toArray) w := by kernel_rfl
theorem New_ok (w : World) : Calls Try.prog 19 #[] w fun e w' => (∃ g S, e = .returned (.pointer (some ⟨g, 0, none⟩)) ∧
    Qw w' g S 0 [] ∧ ∀ b, S b → w.heap.size ≤ b) ∧ Below w.heap.size w w' := by
  have hmm := @run_makeMap Try.prog
  have hz := zero69
  have q := Qb_new w
  have hne : ((Value.map none :: List.replicate 128 (.slice none 0 0)).toArray = #[]) = False := by simp
  have hset : ∀ v, (Value.map none :: List.replicate 128 (.slice none 0 0)).toArray.setIfInBounds 0 v = (v :: List.replicate 128 (.slice none 0 0)).toArray := fun v => by simp
  generalize hA : (Value.map none :: List.replicate 128 (.slice none 0 0)).toArray = A at *
  have hx : (Value.map (some w.heap.size) :: List.replicate 128 (.slice none 0 0)).toArray = A.setIfInBounds 0 (.map (some w.heap.size)) := (hset _).symm
  rw [hx] at q
  clear hx hset hA
  go_enter Try.func19, Try.ntmps19
  go_wp2_with fail
  go_ret
  refine ⟨⟨_, _, rfl, ⟨_, _, _, q, fun b => Iff.rfl⟩, fun b hb => ?_⟩, ((Below.refl _ _).alloc (Nat.le_refl _) _).alloc (by simp) _⟩
  rcases hb with rfl | rfl | ⟨v, hv, e⟩
  · omega
  · omega
  · rw [(List.mem_replicate.1 hv).2] at e; cases e

/-- The cells of a row of hits. -/
theorem rowH_cells {w : World} {base : Nat} {v : Value} {l : List It} (h : w.ownsRow base 31 2 v l.length (flatH l)) : ∃ (A : Option Addr) (c : Nat), v = .slice A l.length c ∧ l.length ≤ c ∧ c ≤ maxLen ∧ ∀ (k : Nat) (t : It), l[k]? = some t → ∃ b, A = some ⟨b, 0, none⟩ ∧ b < w.heap.size ∧ v.ownBlock = some b ∧
    ∀ W : World, W.heap[b]? = w.heap[b]? → W.cell? ⟨b, 2 * k, none⟩ = some (.int .i64 t.id) ∧ W.cell? ⟨b, 2 * k + 1, none⟩ = some (.int .i64 t.wn) := by
  rcases h.2 with ⟨rfl, hn⟩ | ⟨g, cap, cur, rfl, hb, hh, hc, hm, hs, ht⟩
  · refine ⟨none, 0, by rw [hn], by omega, Nat.zero_le _, fun k t hk => ?_⟩
    rw [List.eq_nil_of_length_eq_zero hn] at hk
    simp at hk
  · refine ⟨_, cap, rfl, hc, hm, fun k t hk => ⟨g, rfl, lt_of_block hh, rfl, fun W hW => ?_⟩⟩
    rw [hh] at hW
    have hkl : k < l.length := (List.getElem?_eq_some_iff.1 hk).1
    obtain ⟨h1, h2⟩ := flatH_get l k t hk
    rw [← ht, List.getElem?_take_of_lt (by omega)] at h1 h2
    simp only [World.cell?, hW]
    exact ⟨by simpa using h1, by simpa using h2⟩
theorem ints_cells {w : World} {base : Nat} {v : Value} {l : List Int} (h : w.ownsRow base 3 1 v l.length (l.map (Value.int .i64))) : ∃ (A : Option Addr) (c : Nat), v = .slice A l.length c ∧ l.length ≤ c ∧ c ≤ maxLen ∧ ∀ (k : Nat) (t : Int), l[k]? = some t → ∃ b, A = some ⟨b, 0, none⟩ ∧ b < w.heap.size ∧ v.ownBlock = some b ∧
    ∀ W : World, W.heap[b]? = w.heap[b]? → W.cell? ⟨b, k, none⟩ = some (.int .i64 t) := by
  rcases h.2 with ⟨rfl, hn⟩ | ⟨g, cap, cur, rfl, hb, hh, hc, hm, hs, ht⟩
  · refine ⟨none, 0, by rw [hn], by omega, Nat.zero_le _, fun k t hk => ?_⟩
    rw [List.eq_nil_of_length_eq_zero hn] at hk
    simp at hk
  · refine ⟨_, cap, rfl, hc, hm, fun k t hk => ⟨g, rfl, lt_of_block hh, rfl, fun W hW => ?_⟩⟩
    rw [hh] at hW
    have hkl : k < l.length := (List.getElem?_eq_some_iff.1 hk).1
    have hg : (l.map (Value.int .i64))[k]? = some (.int .i64 t) := by rw [List.getElem?_map, hk]; rfl
    rw [← ht, List.getElem?_take_of_lt (by omega)] at hg
    simp only [World.cell?, hW]
    simpa using hg

set_option maxHeartbeats 1000000 in
theorem same_any (w : World) (u v : Value) (l : List Int) (hl : l.length ≤ 20000) (hu : w.ownsRow 0 3 1 u l.length (l.map (Value.int .i64))) (hv : w.ownsRow 0 3 1 v l.length (l.map (Value.int .i64))) :
    Calls Try.prog 16 #[u, v] w fun e w' => e = .returned (.bool true) ∧ Below w.heap.size w w' := by
  obtain ⟨A, c, rfl, hlc, hcm, hcu⟩ := ints_cells hu
  obtain ⟨A', c', rfl, hlc', hcm', hcv⟩ := ints_cells hv
  unfold maxLen at hcm hcm'
  have HC := Lib.hid hcu; have HD := Lib.hid hcv
  clear hcu hcv hu hv
  generalize hM : l.length = n at *
  have HM := Lib.hid hM
  clear hM
  go_enter Try.func16, Try.ntmps16
  go_wp2_with fail
  go_loopw [13] (fun i wr => ∃ k : Nat, k ≤ n ∧ i = .int .i64 k ∧ Below w.heap.size w wr) (fun i _ => n - (intOf i).toNat)
  case atStart => exact ⟨0, Nat.zero_le _, rfl, Below.refl _ _⟩
  case round =>
    obtain ⟨wq, rfl⟩ : ∃ wq : World, wq = wr := ⟨_, rfl⟩
    obtain ⟨k, hk, rfl, hB⟩ := hrel
    by_cases hkn : k < n
    · have hk2 : k < l.length := by rw [HM.out]; exact hkn
      obtain ⟨b, rfl, hb, -, hW⟩ := HC.out k _ (List.getElem?_eq_getElem hk2)
      obtain ⟨b', rfl, hb', -, hW'⟩ := HD.out k _ (List.getElem?_eq_getElem hk2)
      generalize l[k] = t at *
      have c0 := hW wq (hB.block _ hb)
      have d0 := hW' wq (hB.block _ hb')
      clear hW hW'
      have hkn' : (k : Int) < (n : Int) := by omega
      go_wp2_with fail
      go_quiet (fail)
      go_wp2_with fail
      go_roundw
      case rel => exact ⟨k + 1, by omega, by go_num, below_drewN hB _⟩
      case measure => simp [intOf]; omega
    · obtain rfl : k = n := by omega
      go_wp2_with fail
      go_ret
      exact ⟨rfl, hB⟩

set_option maxHeartbeats 1000000 in
theorem hits_same (w : World) (u v : Value) (l : List It) (hl : l.length ≤ 20000) (hu : w.ownsRow 0 31 2 u l.length (flatH l)) (hv : w.ownsRow 0 31 2 v l.length (flatH l)) :
    Calls Try.prog 26 #[u, v] w fun e w' => e = .returned (.bool true) ∧ Below w.heap.size w w' := by
  obtain ⟨A, c, rfl, hlc, hcm, hcu⟩ := rowH_cells hu
  obtain ⟨A', c', rfl, hlc', hcm', hcv⟩ := rowH_cells hv
  unfold maxLen at hcm hcm'
  have HC := Lib.hid hcu; have HD := Lib.hid hcv
  clear hcu hcv hu hv
  generalize hM : l.length = n at *
  have HM := Lib.hid hM
  clear hM
  go_enter Try.func26, Try.ntmps26
  go_wp2_with fail
  go_loopw [13] (fun i wr => ∃ k : Nat, k ≤ n ∧ i = .int .i64 k ∧ Below w.heap.size w wr) (fun i _ => n - (intOf i).toNat)
  case atStart => exact ⟨0, Nat.zero_le _, rfl, Below.refl _ _⟩
  case round =>
    obtain ⟨wq, rfl⟩ : ∃ wq : World, wq = wr := ⟨_, rfl⟩
    obtain ⟨k, hk, rfl, hB⟩ := hrel
    by_cases hkn : k < n
    · have hk2 : k < l.length := by rw [HM.out]; exact hkn
      obtain ⟨b, rfl, hb, -, hW⟩ := HC.out k _ (List.getElem?_eq_getElem hk2)
      obtain ⟨b', rfl, hb', -, hW'⟩ := HD.out k _ (List.getElem?_eq_getElem hk2)
      generalize l[k] = t at *
      obtain ⟨ti, tf, tc, tp⟩ := t
      obtain ⟨c0, c1⟩ := hW wq (hB.block _ hb)
      obtain ⟨d0, d1⟩ := hW' wq (hB.block _ hb')
      rw [Nat.mul_comm] at c0 c1 d0 d1
      simp only at c0 c1 d0 d1
      clear hW hW'
      have hkn' : (k : Int) < (n : Int) := by omega
      go_wp2_with fail
      go_quiet (fail)
      go_wp2_with fail
      go_roundw
      case rel => exact ⟨k + 1, by omega, by go_num, below_drewN hB _⟩
      case measure => simp [intOf]; omega
    · obtain rfl : k = n := by omega
      go_wp2_with fail
      go_ret
      exact ⟨rfl, hB⟩
end Go.Proofs.Ytllolfbjmpaamaa
