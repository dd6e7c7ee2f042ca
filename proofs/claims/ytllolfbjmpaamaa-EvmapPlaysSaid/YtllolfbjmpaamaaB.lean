/- Clone, IndexFunc, DeleteFunc, without. -/
import Derived.Test.YtllolfbjmpaamaaA
namespace Go.Proofs.Ytllolfbjmpaamaa
open Go.RowKit
set_option linter.unusedSimpArgs false
set_option linter.unusedVariables false
set_option maxRecDepth 100000

theorem flat_one (l : List It) : ∀ u ∈ flat l, u.oneCell' = true := by
  intro u hu
  simp only [flat, List.mem_map] at hu
  obtain ⟨t, _, rfl⟩ := hu
  rfl
/-- The cells of a row, as a list. -/
theorem row_src {w : World} {base : Nat} {e : TypeId} {s : Nat} {v : Value} {n : Nat} {xs : List Value} (h : w.ownsRow base e s v n xs) : ∃ (A : Option Addr) (c : Nat), v = .slice A n c ∧ n ≤ c ∧ c ≤ maxLen ∧ (A = none → n = 0 ∧ c = 0) ∧
    ∀ ad, A = some ad → ad.block < w.heap.size ∧ v.ownBlock = some ad.block ∧ ∀ W : World, W.heap[ad.block]? = w.heap[ad.block]? → ∀ j u, xs[j]? = some u → W.cell? (ad.add j) = some u := by
  rcases h.2 with ⟨rfl, hn⟩ | ⟨g, cap, cur, rfl, hb, hh, hc, hm, hs, ht⟩
  · exact ⟨none, 0, by rw [hn], by omega, Nat.zero_le _, fun _ => ⟨hn, rfl⟩, fun _ e => by cases e⟩
  · refine ⟨_, cap, rfl, hc, hm, (fun e => by cases e), fun ad e => ?_⟩
    cases e
    refine ⟨lt_of_block hh, rfl, fun W hW j u hj => ?_⟩
    rw [hh] at hW
    rw [add_plain, Nat.zero_add]
    simp only [World.cell?, hW]
    rw [← ht] at hj
    have hj2 : j < n * s := by
      have := (List.getElem?_eq_some_iff.1 hj).1
      rw [List.length_take] at this; omega
    rw [List.getElem?_take_of_lt hj2] at hj
    simpa using hj
/-- The cells of a row of numbers. -/
theorem row_cells {w : World} {base : Nat} {v : Value} {l : List It} (h : w.ownsRow base 3 1 v l.length (flat l)) : ∃ (A : Option Addr) (c : Nat), v = .slice A l.length c ∧ l.length ≤ c ∧ c ≤ maxLen ∧ ∀ (k : Nat) (t : It), l[k]? = some t → ∃ b, A = some ⟨b, 0, none⟩ ∧ b < w.heap.size ∧ v.ownBlock = some b ∧
    ∀ W : World, W.heap[b]? = w.heap[b]? → W.cell? ⟨b, k, none⟩ = some (.int .i64 t.id) := by
  rcases h.2 with ⟨rfl, hn⟩ | ⟨g, cap, cur, rfl, hb, hh, hc, hm, hs, ht⟩
  · refine ⟨none, 0, by rw [hn], by omega, Nat.zero_le _, fun k t hk => ?_⟩
    rw [List.eq_nil_of_length_eq_zero hn] at hk
    simp at hk
  · refine ⟨_, cap, rfl, hc, hm, fun k t hk => ⟨g, rfl, lt_of_block hh, rfl, fun W hW => ?_⟩⟩
    rw [hh] at hW
    have hkl : k < l.length := (List.getElem?_eq_some_iff.1 hk).1
    have hg := flat_get l k t hk
    rw [← ht, List.getElem?_take_of_lt (by omega)] at hg
    simp only [World.cell?, hW]
    simpa using hg

set_option maxHeartbeats 2000000 in
theorem Clone_any (v : Value) (l : List It) (w : World) (h : w.ownsRow 0 3 1 v l.length (flat l)) (hl : l.length ≤ 100000) :
    Calls Try.prog 35 #[v] w fun e w' => (∃ v', e = .returned v' ∧ w'.ownsRow w.heap.size 3 1 v' l.length (flat l)) ∧ Below w.heap.size w w' := by
  obtain ⟨i3, hi, hz, hs, hy⟩ := info_parts info3
  have I3 := Lib.hid hi; have Z3 := Lib.hid hz; have S3 := Lib.hid hs; have Y3 := Lib.hid hy
  clear hi hz hs hy
  obtain ⟨A, c, rfl, hlc, hcm, hnil, hsrc⟩ := row_src h
  unfold maxLen at hcm
  have FL := Lib.hid (flat_len l)
  have FO := Lib.hid (flat_one l)
  cases A with
  | none =>
    obtain ⟨h0, rfl⟩ := hnil rfl
    obtain rfl : l = [] := List.eq_nil_of_length_eq_zero h0
    clear h hsrc hnil FL FO
    simp only [List.length_nil]
    have qn := fun w => Lib.run_eql_slice_nil (P := Try.prog) w 28 3 none 0 0 0 0 Try.underlying28
    go_enter Try.func35, Try.ntmps35
    go_wp2_with fail
    go_ret
    exact ⟨⟨_, rfl, World.ownsRow_nil _ _ _ _⟩, Below.refl _ _⟩
  | some ad =>
    obtain ⟨ha, -, hW⟩ := hsrc ad rfl
    have HW := Lib.hid hW
    have hown0 : (w.alloc (.cells #[] 3)).ownsRow w.heap.size 3 1 (.slice (some ⟨w.heap.size, 0, none⟩) 0 0) 0 [] := World.ownsRow_made (base := w.heap.size) (e := 3) (size := 1) w #[] 0 (Nat.le_refl _) (Nat.zero_le _) (by simp)
    clear h hsrc hnil hW
    generalize flat l = xs at *
    generalize l.length = n at *
    have qn := fun w => Lib.run_eql_slice_nil (P := Try.prog) w 28 3 (some ad) n c 0 0 Try.underlying28
    go_enter Try.func35, Try.ntmps35
    go_wp2_with (at_builtin; refine wpList_append_own _ rfl _ _ 28 rfl w.heap.size 3 i3 _ 1 8 Try.underlying28 I3.out Z3.out S3.out Y3.out rfl (by decide) _ _ _ rfl hown0 ad n c xs rfl (by rw [FL.out]; omega) (HW.out _ (Below.heap_alloc _ _ _ ha)) FO.out (by unfold maxLen; omega) (by omega) (by simp) ?_; intro v' w5 hown' hgrow _; have hb5 : Below w.heap.size w w5 := ((Below.refl _ w).alloc (Nat.le_refl _) _).grown hgrow (by simp) (fun k e => by cases e; exact Nat.le_refl _); clear hgrow hown0)
    simp only [Nat.zero_add, List.nil_append] at hown'
    go_ret
    exact ⟨⟨_, rfl, hown'⟩, hb5⟩

/-- Is it that number? -/
theorem pred_any (y x : Int) (xb : Nat) (w : World) (h : w.cell? ⟨xb, 0, none⟩ = some (.int .i64 x)) :
    Calls Try.prog 45 #[.int .i64 y, .pointer (some ⟨xb, 0, none⟩)] w fun e w' => e = .returned (.bool (y == x)) ∧ w = w' := by
  go_enter Try.func45, Try.ntmps45
  go_wp2_with fail
  go_ret
  exact ⟨rfl, rfl⟩
theorem plc_lt' {l : List It} {x : Int} {k : Nat} (hp : plc l x < l.length) (hk : k ≤ plc l x) : ∃ t, l[k]? = some t ∧ (t.id = x ↔ k = plc l x) := by
  have hl : k < l.length := by omega
  refine ⟨l[k], List.getElem?_eq_getElem hl, ?_, ?_⟩
  · intro e
    rcases Nat.lt_or_ge k (plc l x) with h | h
    · have := List.not_of_lt_findIdx (p := fun t : It => t.id == x) (xs := l) h
      simp [e] at this
    · omega
  · rintro rfl
    have := List.findIdx_getElem (p := fun t : It => t.id == x) (xs := l) (w := hp)
    exact eq_of_beq this
theorem plc_lt_look {l : List It} {x : Int} {t : It} (h : look l x = some t) : plc l x < l.length := by
  obtain ⟨h1, rfl⟩ := look_some h
  exact plc_lt h1

set_option maxHeartbeats 1000000 in
theorem index_yes (v : Value) (l : List It) (x : Int) (xb : Nat) (w : World) (h : w.ownsRow 0 3 1 v l.length (flat l)) (hl : l.length ≤ 100000) (hx : w.cell? ⟨xb, 0, none⟩ = some (.int .i64 x)) (hp : plc l x < l.length) :
    Calls Try.prog 47 #[v, .func (.func 45) #[] #[.pointer (some ⟨xb, 0, none⟩)]] w fun e w' => e = .returned (.int .i64 (plc l x)) ∧ w = w' := by
  obtain ⟨A, c, rfl, hlc, hcm, hcell⟩ := row_cells h
  clear h
  unfold maxLen at hcm
  have HC : Hid (∀ k, k ≤ plc l x → ∃ (t : It) (b : Nat), A = some ⟨b, 0, none⟩ ∧ (t.id = x ↔ k = plc l x) ∧ w.cell? ⟨b, k, none⟩ = some (.int .i64 t.id)) := Lib.hid (fun k hk => by
    obtain ⟨t, ht, hiff⟩ := plc_lt' hp hk
    obtain ⟨b, hA, hb, _, hW⟩ := hcell k t ht
    exact ⟨t, b, hA, hiff, hW w rfl⟩)
  clear hcell
  generalize plc l x = n at *
  generalize l.length = ln at *
  go_enter Try.func47, Try.ntmps47
  go_wp2_with fail
  go_loopw [8] (fun i wr => ∃ k : Nat, k ≤ n ∧ i = .int .i64 k ∧ w = wr) (fun i _ => n - (intOf i).toNat)
  case atStart => exact ⟨0, Nat.zero_le _, rfl, rfl⟩
  case round =>
    obtain ⟨k, hk, rfl, rfl⟩ := hrel
    obtain ⟨t, b, rfl, hiff, c0⟩ := HC.out k hk
    obtain ⟨ti, tf, tc, tp⟩ := t
    (try simp only at hiff c0)
    have hkl : (k : Int) < (ln : Int) := by omega
    by_cases he : k = n
    · have e1 : (ti == x) = true := by simp [hiff.2 he]
      clear hiff
      subst he
      go_wp2_with (refine (pred_any _ _ _ _ hx).mono ?_; rintro e w2 ⟨rfl, rfl⟩)
      go_ret
      exact ⟨rfl, rfl⟩
    · have e1 : (ti == x) = false := by
        rw [Bool.eq_false_iff]; intro h; exact he (hiff.1 (eq_of_beq h))
      clear hiff
      go_wp2_with (refine (pred_any _ _ _ _ hx).mono ?_; rintro e w2 ⟨rfl, rfl⟩)
      go_roundw
      case rel => exact ⟨k + 1, by omega, by go_num, by first | rfl | trivial⟩
      case measure => simp [intOf]; omega
set_option maxHeartbeats 1000000 in
theorem index_no (v : Value) (l : List It) (x : Int) (xb : Nat) (w : World) (h : w.ownsRow 0 3 1 v l.length (flat l)) (hl : l.length ≤ 100000) (hx : w.cell? ⟨xb, 0, none⟩ = some (.int .i64 x)) (hp : look l x = none) :
    Calls Try.prog 47 #[v, .func (.func 45) #[] #[.pointer (some ⟨xb, 0, none⟩)]] w fun e w' => e = .returned (.int .i64 (-1)) ∧ w = w' := by
  obtain ⟨A, c, rfl, hlc, hcm, hcell⟩ := row_cells h
  clear h
  unfold maxLen at hcm
  have HC : Hid (∀ k, k < l.length → ∃ (t : It) (b : Nat), A = some ⟨b, 0, none⟩ ∧ t.id ≠ x ∧ w.cell? ⟨b, k, none⟩ = some (.int .i64 t.id)) := Lib.hid (fun k hk => by
    obtain ⟨b, hA, hb, _, hW⟩ := hcell k _ (List.getElem?_eq_getElem hk)
    exact ⟨l[k], b, hA, look_none.1 hp _ (List.getElem_mem hk), hW w rfl⟩)
  clear hcell hp
  generalize l.length = ln at *
  go_enter Try.func47, Try.ntmps47
  go_wp2_with fail
  go_loopw [8] (fun i wr => ∃ k : Nat, k ≤ ln ∧ i = .int .i64 k ∧ w = wr) (fun i _ => ln - (intOf i).toNat)
  case atStart => exact ⟨0, Nat.zero_le _, rfl, rfl⟩
  case round =>
    obtain ⟨k, hk, rfl, rfl⟩ := hrel
    by_cases hkl : k < ln
    · obtain ⟨t, b, rfl, hne, c0⟩ := HC.out k hkl
      obtain ⟨ti, tf, tc, tp⟩ := t
      (try simp only at hne c0)
      have e1 : (ti == x) = false := by simpa using hne
      have hkl2 : (k : Int) < (ln : Int) := by omega
      go_wp2_with (refine (pred_any _ _ _ _ hx).mono ?_; rintro e w2 ⟨rfl, rfl⟩)
      go_roundw
      case rel => exact ⟨k + 1, by omega, by go_num, by first | rfl | trivial⟩
      case measure => simp [intOf]; omega
    · obtain rfl : k = ln := by omega
      go_wp2_with fail
      go_ret
      exact ⟨rfl, rfl⟩
end Go.Proofs.Ytllolfbjmpaamaa
