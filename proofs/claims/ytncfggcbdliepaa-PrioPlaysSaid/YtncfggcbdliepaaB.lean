/- Where a number stands: the closure, IndexFunc, at. -/
import Derived.Test.YtncfggcbdliepaaA
namespace Go.Proofs.Ytncfggcbdliepaa
open Go.RowKit
set_option linter.unusedSimpArgs false
set_option linter.unusedVariables false
set_option maxRecDepth 100000

theorem eq_of (a b : Int) : (a == b) = decide (a = b) := by by_cases h : a = b <;> simp [h]
/-- Is an item that number's? -/
theorem pred_any (i f c x : Int) (xb : Nat) (w : World) (h : w.cell? ⟨xb, 0, none⟩ = some (.int .i64 x)) :
    Calls Try.prog 35 #[.agg #[.int .i64 i, .int .i64 f, .int .i64 c], .pointer (some ⟨xb, 0, none⟩)] w fun e w' => e = .returned (.bool (i == x)) ∧ Below w.heap.size w w' := by
  have hx := (cell_lt h).1
  simp at hx
  go_enter Try.func35, Try.ntmps35
  go_wp2_with fail
  go_ret
  exact ⟨rfl, (Below.refl _ _).alloc (Nat.le_refl _) _⟩

/-- The cells of a row's items. -/
theorem row_cells {w : World} {v : Value} {l : List It} (h : w.ownsRow 0 35 3 v l.length (flat l)) : ∃ (A : Option Addr) (c : Nat), v = .slice A l.length c ∧ l.length ≤ c ∧ c ≤ maxLen ∧ ∀ (k : Nat) (t : It), l[k]? = some t → ∃ b, A = some ⟨b, 0, none⟩ ∧ b < w.heap.size ∧ v.ownBlock = some b ∧
    (∀ W : World, W.heap[b]? = w.heap[b]? → W.cell? ⟨b, k * 3, none⟩ = some (.int .i64 t.id) ∧ W.cell? ⟨b, k * 3 + 1, none⟩ = some (.int .i64 t.fl) ∧ W.cell? ⟨b, k * 3 + 2, none⟩ = some (.int .i64 t.ct) ∧
      W.frozen? ⟨b, k * 3, none⟩ = false ∧ W.frozen? ⟨b, k * 3 + 1, none⟩ = false ∧ W.frozen? ⟨b, k * 3 + 2, none⟩ = false) := by
  rcases h.2 with ⟨rfl, hn⟩ | ⟨g, cap, cur, rfl, hb, hh, hc, hm, hs, ht⟩
  · refine ⟨none, 0, by rw [hn], by omega, Nat.zero_le _, fun k t hk => ?_⟩
    rw [List.eq_nil_of_length_eq_zero hn] at hk
    simp at hk
  · refine ⟨_, cap, rfl, hc, hm, fun k t hk => ⟨g, rfl, lt_of_block hh, rfl, fun W hW => ?_⟩⟩
    rw [hh] at hW
    have hkl : k < l.length := (List.getElem?_eq_some_iff.1 hk).1
    have key : ∀ j, j < 3 → cur[k * 3 + j]? = (enc t)[j]? := fun j hj => by
      rw [← flat_get l k j hj t hk, ← ht, List.getElem?_take_of_lt (by omega)]
      simp
    have k0 := key 0 (by omega)
    have k1 := key 1 (by omega)
    have k2 := key 2 (by omega)
    simp [enc] at k0 k1 k2
    simp [World.cell?, World.frozen?, hW, k0, k1, k2]

theorem plc_lt' {l : List It} {x : Int} {k : Nat} (hp : plc l x < l.length) (hk : k ≤ plc l x) : ∃ t, l[k]? = some t ∧ (t.id = x ↔ k = plc l x) := by
  have hl : k < l.length := by omega
  refine ⟨l[k], List.getElem?_eq_getElem hl, ?_, ?_⟩
  · intro e
    rcases Nat.lt_or_ge k (plc l x) with h | h
    · have := List.not_of_lt_findIdx (p := fun t : It => t.id == x) (xs := l) h
      simp [e] at this
    · omega
  · rintro rfl
    have := List.findIdx_getElem (p := fun t : It => t.id == x) (xs := l) (w := hp)
    exact eq_of_beq this

set_option maxHeartbeats 1000000 in
theorem index_any (v : Value) (l : List It) (x : Int) (xb : Nat) (w : World) (h : w.ownsRow 0 35 3 v l.length (flat l)) (hx : w.cell? ⟨xb, 0, none⟩ = some (.int .i64 x)) (hp : plc l x < l.length) :
    Calls Try.prog 34 #[v, .func (.func 35) #[] #[.pointer (some ⟨xb, 0, none⟩)]] w fun e w' => e = .returned (.int .i64 (plc l x)) ∧ Below w.heap.size w w' := by
  obtain ⟨A, c, rfl, hlc, hcm, hcell⟩ := row_cells h
  have hxb := (cell_lt hx).1
  simp at hxb
  clear h
  unfold maxLen at hcm
  have HC : Hid (∀ k, k ≤ plc l x → ∃ (t : It) (b : Nat), A = some ⟨b, 0, none⟩ ∧ b < w.heap.size ∧ (t.id = x ↔ k = plc l x) ∧ ∀ W : World, Below w.heap.size w W → W.cell? ⟨b, k * 3, none⟩ = some (.int .i64 t.id) ∧ W.cell? ⟨b, k * 3 + 1, none⟩ = some (.int .i64 t.fl) ∧ W.cell? ⟨b, k * 3 + 2, none⟩ = some (.int .i64 t.ct)) := Lib.hid (fun k hk => by
    obtain ⟨t, ht, hiff⟩ := plc_lt' hp hk
    obtain ⟨b, hA, hb, _, hW⟩ := hcell k t ht
    exact ⟨t, b, hA, hb, hiff, fun W hB => by obtain ⟨c0, c1, c2, _⟩ := hW W (hB.block b hb); exact ⟨c0, c1, c2⟩⟩)
  clear hcell
  generalize plc l x = n at *
  generalize l.length = ln at *
  go_enter Try.func34, Try.ntmps34
  go_wp2_with fail
  go_loopw [8] (fun i wr => ∃ k : Nat, k ≤ n ∧ i = .int .i64 k ∧ Below w.heap.size w wr) (fun i _ => n - (intOf i).toNat)
  case atStart => exact ⟨0, Nat.zero_le _, rfl, Below.refl _ _⟩
  case round =>
    obtain ⟨k, hk, rfl, hB⟩ := hrel
    obtain ⟨t, b, rfl, hb, hiff, hW⟩ := HC.out k hk
    obtain ⟨c0, c1, c2⟩ := hW wr hB
    have cx := (hB.cell (p := ⟨xb, 0, none⟩) hxb).trans hx
    obtain ⟨ti, tf, tc, tp⟩ := t
    (try simp only at hiff c0 c1 c2)
    have hkl : k < ln := by omega
    clear hW hx
    by_cases he : k = n
    · have e1 : (ti == x) = true := by simp [hiff.2 he]
      clear hiff
      subst he
      go_wp2_with (refine (pred_any _ _ _ _ _ _ cx).mono ?_; rintro e w2 ⟨rfl, hb2⟩; have hB2 := hB.trans (hb2.mono hB.size); clear hb2)
      go_ret
      exact ⟨rfl, hB2⟩
    · have e1 : (ti == x) = false := by
        rw [Bool.eq_false_iff]; intro h; exact he (hiff.1 (eq_of_beq h))
      clear hiff
      go_wp2_with (refine (pred_any _ _ _ _ _ _ cx).mono ?_; rintro e w2 ⟨rfl, hb2⟩; have hB2 := hB.trans (hb2.mono hB.size); clear hb2)
      go_roundw
      case rel => exact ⟨k + 1, by omega, by go_num, hB2⟩
      case measure => simp [intOf]; omega
end Go.Proofs.Ytncfggcbdliepaa
