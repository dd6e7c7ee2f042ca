/- The reference's queues: what they are, find, New, Has, Least, List. -/
import Derived.Test.YtncfggcbdliepaaSo
namespace Go.Proofs.Ytncfggcbdliepaa
open Go.RowKit
set_option linter.unusedSimpArgs false
set_option linter.unusedVariables false
set_option maxRecDepth 100000

theorem info58 : (Try.prog.info? 58).map (fun i => (i.zero, i.size, i.bytes)) = some (some (.agg #[.int .i64 0, .int .i64 0, .int .i64 0, .int .i64 0]), 4, 32) := by kernel_rfl

/-- An item's cells. -/
def enc4 (t : It) : List Value := [.int .i64 t.id, .int .i64 t.fl, .int .i64 t.ct, .int .i64 t.pr]
def flat4 (l : List It) : List Value := l.flatMap enc4
theorem flat4_len (l : List It) : (flat4 l).length = l.length * 4 := by
  induction l with
  | nil => rfl
  | cons a r ih => simp only [flat4, List.flatMap_cons, List.length_append, List.length_cons] at ih ⊢; rw [ih]; simp [enc4]; omega
theorem flat4_append (l m : List It) : flat4 (l ++ m) = flat4 l ++ flat4 m := List.flatMap_append ..
theorem flat4_one (l : List It) : ∀ u ∈ flat4 l, u.oneCell' = true := by
  intro u hu
  simp only [flat4, List.mem_flatMap] at hu
  obtain ⟨t, _, ht⟩ := hu
  simp [enc4] at ht
  rcases ht with rfl | rfl | rfl | rfl <;> rfl
theorem flat4_get (l : List It) (k j : Nat) (hj : j < 4) (t : It) (h : l[k]? = some t) : (flat4 l)[k * 4 + j]? = (enc4 t)[j]? := by
  induction l generalizing k with
  | nil => simp at h
  | cons a r ih =>
    have e : flat4 (a :: r) = enc4 a ++ flat4 r := rfl
    rw [e]
    cases k with
    | zero =>
      simp at h; subst h
      rw [Nat.zero_mul, Nat.zero_add, List.getElem?_append_left (by simp [enc4]; omega)]
    | succ k =>
      rw [List.getElem?_append_right (by simp [enc4]; omega)]
      have : (k + 1) * 4 + j - (enc4 a).length = k * 4 + j := by simp [enc4]; omega
      rw [this]
      exact ih k (by simpa using h)
/-- The cells of an item of a row. -/
def Cel4 (W : World) (b k : Nat) (t : It) : Prop :=
  (W.cell? ⟨b, k * 4, none⟩ = some (.int .i64 t.id) ∧ W.cell? ⟨b, k * 4 + 1, none⟩ = some (.int .i64 t.fl) ∧ W.cell? ⟨b, k * 4 + 2, none⟩ = some (.int .i64 t.ct) ∧ W.cell? ⟨b, k * 4 + 3, none⟩ = some (.int .i64 t.pr)) ∧
  (W.frozen? ⟨b, k * 4, none⟩ = false ∧ W.frozen? ⟨b, k * 4 + 1, none⟩ = false ∧ W.frozen? ⟨b, k * 4 + 2, none⟩ = false ∧ W.frozen? ⟨b, k * 4 + 3, none⟩ = false)
theorem row4_cells {w : World} {base : Nat} {v : Value} {l : List It} (h : w.ownsRow base 58 4 v l.length (flat4 l)) : ∃ (A : Option Addr) (c : Nat), v = .slice A l.length c ∧ l.length ≤ c ∧ c ≤ maxLen ∧ (A = none → l.length = 0) ∧ (∀ ad, A = some ad → ∃ b, ad = ⟨b, 0, none⟩ ∧ b < w.heap.size ∧ v.ownBlock = some b) ∧ ∀ (k : Nat) (t : It), l[k]? = some t → ∃ b, A = some ⟨b, 0, none⟩ ∧ b < w.heap.size ∧ v.ownBlock = some b ∧
    (∀ W : World, W.heap[b]? = w.heap[b]? → Cel4 W b k t) := by
  rcases h.2 with ⟨rfl, hn⟩ | ⟨g, cap, cur, rfl, hb, hh, hc, hm, hs, ht⟩
  · refine ⟨none, 0, by rw [hn], by omega, Nat.zero_le _, fun _ => hn, (fun ad e => by cases e), fun k t hk => ?_⟩
    rw [List.eq_nil_of_length_eq_zero hn] at hk
    simp at hk
  · refine ⟨_, cap, rfl, hc, hm, (fun e => by cases e), fun ad e => (by cases e; exact ⟨g, rfl, lt_of_block hh, rfl⟩), fun k t hk => ⟨g, rfl, lt_of_block hh, rfl, fun W hW => ?_⟩⟩
    rw [hh] at hW
    have hkl : k < l.length := (List.getElem?_eq_some_iff.1 hk).1
    have key : ∀ j, j < 4 → cur[k * 4 + j]? = (enc4 t)[j]? := fun j hj => by
      rw [← flat4_get l k j hj t hk, ← ht, List.getElem?_take_of_lt (by omega)]
      simp
    have k0 := key 0 (by omega)
    have k1 := key 1 (by omega)
    have k2 := key 2 (by omega)
    have k3 := key 3 (by omega)
    simp [enc4] at k0 k1 k2 k3
    simp [Cel4, World.cell?, World.frozen?, hW, k0, k1, k2, k3]

/-- The reference's queues in block r, the list in v. -/
structure Rf (w : World) (r : Nat) (v : Value) (N m : Nat) (L : List It) : Prop where
  q : w.heap[r]? = some (.cells #[.int .i64 m, v] 50 (0, 0))
  o : w.ownsRow 0 58 4 v L.length (flat4 L)
  x : ∀ b, v.ownBlock = some b → b ≠ r
  ok : Ok m L
  ln : L.length ≤ N
  m8 : 1 ≤ m ∧ m ≤ 8
def RFoot (r : Nat) (v : Value) (b : Nat) : Prop := b = r ∨ v.ownBlock = some b
theorem Rf.foot_lt {w : World} {r : Nat} {v : Value} {N m : Nat} {L : List It} (h : Rf w r v N m L) {b : Nat} (hb : RFoot r v b) : b < w.heap.size := by
  rcases hb with rfl | e
  · exact lt_of_block h.q
  · exact (h.o.lt b e).2
theorem Rf.keep {w w' : World} {r : Nat} {v : Value} {N m : Nat} {L : List It} (h : Rf w r v N m L) (hk : ∀ b, RFoot r v b → w'.heap[b]? = w.heap[b]?) : Rf w' r v N m L :=
  ⟨(hk r (.inl rfl)).trans h.q, row_same h.o (fun b e => hk b (.inr e)), h.x, h.ok, h.ln, h.m8⟩
theorem Rf.below {w w' : World} {r : Nat} {v : Value} {N m : Nat} {L : List It} (h : Rf w r v N m L) (hb : Below w.heap.size w w') : Rf w' r v N m L := h.keep (fun b hS => hb.block b (h.foot_lt hS))
theorem Rf.cells {w : World} {r : Nat} {v : Value} {N m : Nat} {L : List It} (h : Rf w r v N m L) : w.cell? ⟨r, 0, none⟩ = some (.int .i64 m) ∧ w.cell? ⟨r, 1, none⟩ = some v ∧ w.frozen? ⟨r, 1, none⟩ = false := by
  have c0 := (cell_of h.q 0).1; have c1 := (cell_of h.q 1).1
  simp at c0 c1
  exact ⟨c0, c1, (cell_of h.q 1).2⟩
theorem Rf.mono {w : World} {r : Nat} {v : Value} {N N' m : Nat} {L : List It} (h : Rf w r v N m L) (hN : N ≤ N') : Rf w r v N' m L := ⟨h.q, h.o, h.x, h.ok, Nat.le_trans h.ln hN, h.m8⟩

/-! ### find -/
/-- The place of a number, or -1. -/
def fnd (L : List It) (x : Int) : Int := if (look L x).isSome then plc L x else -1
theorem plc_of_look {L : List It} {x : Int} {t : It} (h : look L x = some t) : plc L x < L.length ∧ L[plc L x]? = some t := by
  have hl : plc L x < L.length := by
    obtain ⟨h1, rfl⟩ := look_some h
    exact plc_lt h1
  refine ⟨hl, ?_⟩
  unfold look at h
  rw [List.find?_eq_some_iff_getElem] at h
  obtain ⟨hx, i, hi, e, hlt⟩ := h
  have e2 : plc L x = i := by
    unfold plc
    rw [List.findIdx_eq hi]
    refine ⟨by rw [e]; exact hx, fun j hj => by simpa using hlt j hj⟩
  rw [e2, List.getElem?_eq_getElem hi, e]
set_option maxHeartbeats 1000000 in
theorem find_yes (w : World) (r : Nat) (v : Value) (N m : Nat) (L : List It) (x : Int) (t : It) (h : Rf w r v N m L) (hN : N ≤ 10000) (hl : look L x = some t) :
    Calls Try.prog 33 #[.pointer (some ⟨r, 0, none⟩), .int .i64 x] w fun e w' => e = .returned (.int .i64 (plc L x)) ∧ w = w' := by
  obtain ⟨A, c, rfl, hlc, hcm, -, -, hcell⟩ := row4_cells h.o
  obtain ⟨-, q1, -⟩ := h.cells
  have hp := (plc_of_look hl).1
  have hln := h.ln
  have HC : Hid (∀ k, k ≤ plc L x → ∃ (t : It) (b : Nat), A = some ⟨b, 0, none⟩ ∧ (t.id = x ↔ k = plc L x) ∧ w.cell? ⟨b, k * 4, none⟩ = some (.int .i64 t.id)) := Lib.hid (fun k hk => by
    obtain ⟨t, ht, hiff⟩ := plc_lt' hp hk
    obtain ⟨b, hA, hb, _, hW⟩ := hcell k t ht
    exact ⟨t, b, hA, hiff, (hW w rfl).1.1⟩)
  clear hcell h hl
  unfold maxLen at hcm
  generalize plc L x = n at *
  generalize L.length = ln at *
  go_enter Try.func33, Try.ntmps33
  go_wp2_with fail
  go_loopw [5] (fun i wr => ∃ k : Nat, k ≤ n ∧ i = .int .i64 k ∧ w = wr) (fun i _ => n - (intOf i).toNat)
  case atStart => exact ⟨0, Nat.zero_le _, rfl, rfl⟩
  case round =>
    obtain ⟨k, hk, rfl, rfl⟩ := hrel
    obtain ⟨t, b, rfl, hiff, c0⟩ := HC.out k hk
    obtain ⟨ti, tf, tc, tp⟩ := t
    (try simp only at hiff c0)
    have hkl : k < ln := by omega
    by_cases he : k = n
    · have e1 : (ti == x) = true := by simp [hiff.2 he]
      clear hiff
      subst he
      go_wp2_with fail
      go_ret
      exact ⟨rfl, rfl⟩
    · have e1 : (ti == x) = false := by
        rw [Bool.eq_false_iff]; intro h; exact he (hiff.1 (eq_of_beq h))
      clear hiff
      go_wp2_with fail
      go_roundw
      case rel => exact ⟨k + 1, by omega, by go_num, by first | rfl | trivial⟩
      case measure => simp [intOf]; omega
set_option maxHeartbeats 1000000 in
theorem find_no (w : World) (r : Nat) (v : Value) (N m : Nat) (L : List It) (x : Int) (h : Rf w r v N m L) (hN : N ≤ 10000) (hl : look L x = none) :
    Calls Try.prog 33 #[.pointer (some ⟨r, 0, none⟩), .int .i64 x] w fun e w' => e = .returned (.int .i64 (-1)) ∧ w = w' := by
  obtain ⟨A, c, rfl, hlc, hcm, -, -, hcell⟩ := row4_cells h.o
  obtain ⟨-, q1, -⟩ := h.cells
  have hln := h.ln
  have HC : Hid (∀ k, k < L.length → ∃ (t : It) (b : Nat), A = some ⟨b, 0, none⟩ ∧ t.id ≠ x ∧ w.cell? ⟨b, k * 4, none⟩ = some (.int .i64 t.id)) := Lib.hid (fun k hk => by
    obtain ⟨b, hA, hb, _, hW⟩ := hcell k _ (List.getElem?_eq_getElem hk)
    exact ⟨L[k], b, hA, look_none.1 hl _ (List.getElem_mem hk), (hW w rfl).1.1⟩)
  clear hcell h hl
  unfold maxLen at hcm
  generalize L.length = ln at *
  go_enter Try.func33, Try.ntmps33
  go_wp2_with fail
  go_loopw [5] (fun i wr => ∃ k : Nat, k ≤ ln ∧ i = .int .i64 k ∧ w = wr) (fun i _ => ln - (intOf i).toNat)
  case atStart => exact ⟨0, Nat.zero_le _, rfl, rfl⟩
  case round =>
    obtain ⟨k, hk, rfl, rfl⟩ := hrel
    by_cases hkl : k < ln
    · obtain ⟨t, b, rfl, hne, c0⟩ := HC.out k hkl
      obtain ⟨ti, tf, tc, tp⟩ := t
      (try simp only at hne c0)
      have e1 : (ti == x) = false := by simpa using hne
      go_wp2_with fail
      go_roundw
      case rel => exact ⟨k + 1, by omega, by go_num, by first | rfl | trivial⟩
      case measure => simp [intOf]; omega
    · obtain rfl : k = ln := by omega
      go_wp2_with fail
      go_ret
      exact ⟨rfl, rfl⟩

/-! ### New, Has -/
set_option maxHeartbeats 1000000 in
theorem rnew_ok (m : Nat) (w : World) (h1 : 1 ≤ m) (h8 : m ≤ 8) : Calls Try.prog 18 #[.int .i64 m] w fun e w' => e = .returned (.tuple #[.agg #[.int .i64 m, .slice none 0 0], .int .i64 0]) ∧ Below w.heap.size w w' := by
  go_enter Try.func18, Try.ntmps18
  go_wp2_with fail
  refine bodyPost_ret (v := .tuple #[.agg #[.int .i64 m, .slice none 0 0], .int .i64 0]) (by simp [results, Try.results18, go_sem]) rfl ⟨rfl, ?_⟩
  exact (Below.refl _ _).alloc (Nat.le_refl _) _
set_option maxHeartbeats 1000000 in
theorem rnew_bad (c : Int) (w : World) (h : c < 1 ∨ 8 < c) : Calls Try.prog 18 #[.int .i64 c] w fun e w' => e = .returned (.tuple #[.agg #[.int .i64 0, .slice none 0 0], .int .i64 2]) ∧ Below w.heap.size w w' := by
  by_cases h1 : c < 1
  case' neg =>
    have h1 : 1 ≤ c := by omega
    have h2 : 8 < c := by omega
  all_goals
    clear h
    go_enter Try.func18, Try.ntmps18
    go_wp2_with fail
    refine bodyPost_ret (v := .tuple #[.agg #[.int .i64 0, .slice none 0 0], .int .i64 2]) (by simp [results, Try.results18, go_sem]) rfl ⟨rfl, ?_⟩
    exact (Below.refl _ _).alloc (Nat.le_refl _) _
set_option maxHeartbeats 1000000 in
theorem rhas_any (w : World) (r : Nat) (v : Value) (N m : Nat) (L : List It) (x : Int) (h : Rf w r v N m L) (hN : N ≤ 10000) :
    Calls Try.prog 24 #[.pointer (some ⟨r, 0, none⟩), .int .i64 x] w fun e w' => e = .returned (.tuple #[.agg #[.int .i64 (itOf L x).id, .int .i64 (itOf L x).fl, .int .i64 (itOf L x).ct, .int .i64 (itOf L x).pr], .bool (look L x).isSome]) ∧ Below w.heap.size w w' := by
  unfold itOf
  have hln := h.ln
  cases hl : look L x with
  | none =>
    have HF := Lib.hid (fun (W : World) (hb : Below w.heap.size w W) => find_no W r v N m L x (h.below hb) hN hl)
    clear h hl
    go_enter Try.func24, Try.ntmps24
    go_wp2_with fail
    refine (HF.out _ ((Below.refl _ w).alloc (Nat.le_refl _) _)).mono ?_
    rintro e w2 ⟨rfl, rfl⟩
    go_wp2_with fail
    refine bodyPost_ret (v := .tuple #[.agg #[.int .i64 0, .int .i64 0, .int .i64 0, .int .i64 0], .bool false]) (by simp [results, Try.results24, go_sem]) rfl ⟨rfl, ?_⟩
    exact (Below.refl _ _).alloc (Nat.le_refl _) _
  | some t =>
    have HF := Lib.hid (fun (W : World) (hb : Below w.heap.size w W) => find_yes W r v N m L x t (h.below hb) hN hl)
    obtain ⟨hp, hg⟩ := plc_of_look hl
    obtain ⟨A, c, rfl, hlc, hcm, -, -, hcell⟩ := row4_cells h.o
    obtain ⟨-, q1, -⟩ := h.cells
    obtain ⟨b, rfl, hb, -, hW⟩ := hcell _ t hg
    obtain ⟨⟨c0, c1, c2, c3⟩, -⟩ := hW (w.alloc (.cells #[.int .i64 0, .int .i64 0, .int .i64 0, .int .i64 0] 58)) (Below.heap_alloc _ _ _ hb)
    have hr := lt_of_block h.q
    have q2 : (w.alloc (.cells #[.int .i64 0, .int .i64 0, .int .i64 0, .int .i64 0] 58)).cell? ⟨r, 1, none⟩ = _ := ((Below.refl w.heap.size w).alloc (Nat.le_refl _) (.cells #[.int .i64 0, .int .i64 0, .int .i64 0, .int .i64 0] 58)).cell (p := ⟨r, 1, none⟩) hr |>.trans q1
    clear h hl hcell hW hg q1
    unfold maxLen at hcm
    generalize plc L x = n at *
    generalize L.length = ln at *
    obtain ⟨ti, tf, tc, tp⟩ := t
    simp only at c0 c1 c2 c3
    go_enter Try.func24, Try.ntmps24
    go_wp2_with fail
    refine (HF.out _ ((Below.refl _ w).alloc (Nat.le_refl _) _)).mono ?_
    rintro e w2 ⟨rfl, rfl⟩
    go_wp2_with fail
    refine bodyPost_ret (v := .tuple #[.agg #[.int .i64 ti, .int .i64 tf, .int .i64 tc, .int .i64 tp], .bool true]) (by simp [results, Try.results24, go_sem]) rfl ⟨rfl, ?_⟩
    exact (Below.refl _ _).alloc (Nat.le_refl _) _

/-! ### Least -/
theorem take_step {l : List It} {k : Nat} {t : It} (h : l[k]? = some t) : l.take (k + 1) = l.take k ++ [t] := by
  obtain ⟨hk, e⟩ := List.getElem?_eq_some_iff.1 h
  rw [List.take_succ_eq_append_getElem hk, e]
set_option maxHeartbeats 2000000 in
theorem rleast_any (w : World) (r : Nat) (v : Value) (N m : Nat) (L : List It) (h : Rf w r v N m L) (hN : N ≤ 10000) :
    Calls Try.prog 25 #[.pointer (some ⟨r, 0, none⟩)] w fun e w' => e = .returned (.int .i64 (least L)) ∧ w = w' := by
  obtain ⟨A, c, rfl, hlc, hcm, -, -, hcell⟩ := row4_cells h.o
  obtain ⟨-, q1, -⟩ := h.cells
  have hln := h.ln
  have HC : Hid (∀ k, k < L.length → ∃ (t : It) (b : Nat), A = some ⟨b, 0, none⟩ ∧ (L.take (k + 1)).foldl leastF (-1) = leastF ((L.take k).foldl leastF (-1)) t ∧ w.cell? ⟨b, k * 4 + 3, none⟩ = some (.int .i64 t.pr)) := Lib.hid (fun k hk => by
    obtain ⟨b, hA, hb, _, hW⟩ := hcell k _ (List.getElem?_eq_getElem hk)
    exact ⟨L[k], b, hA, by rw [take_step (List.getElem?_eq_getElem hk), List.foldl_append]; rfl, (hW w rfl).1.2.2.2⟩)
  have HT : Hid (L.take L.length = L) := Lib.hid (List.take_length ..)
  clear hcell h
  unfold maxLen at hcm
  unfold least
  generalize hll : L.length = ln at *
  clear hll
  go_enter Try.func25, Try.ntmps25
  go_wp2_with fail
  go_loopw [3, 4] (fun o i wr => ∃ k : Nat, k ≤ ln ∧ i = .int .i64 k ∧ o = .int .i64 ((L.take k).foldl leastF (-1)) ∧ w = wr) (fun _ i _ => ln - (intOf i).toNat)
  case atStart => exact ⟨0, Nat.zero_le _, rfl, rfl, rfl⟩
  case round =>
    obtain ⟨k, hk, rfl, rfl, rfl⟩ := hrel
    by_cases hkl : k < ln
    · obtain ⟨t, b, rfl, hst, c0⟩ := HC.out k hkl
      have HST := Lib.hid hst
      clear hst
      obtain ⟨ti, tf, tc, tp⟩ := t
      (try simp only at c0)
      generalize (L.take k).foldl leastF (-1) = o at *
      by_cases h0 : o < 0
      · go_wp2_with fail
        go_roundw
        case rel => exact ⟨k + 1, by omega, by go_num, by rw [HST.out, leastF, if_pos (.inl h0)], by first | rfl | trivial⟩
        case measure => simp [intOf]; omega
      · by_cases h1 : tp < o
        · go_wp2_with fail
          go_roundw
          case rel => exact ⟨k + 1, by omega, by go_num, by rw [HST.out, leastF, if_pos (.inr h1)], by first | rfl | trivial⟩
          case measure => simp [intOf]; omega
        · go_wp2_with fail
          go_roundw
          case rel => exact ⟨k + 1, by omega, by go_num, by rw [HST.out, leastF, if_neg (fun h => h.elim h0 h1)], by first | rfl | trivial⟩
          case measure => simp [intOf]; omega
    · obtain rfl : k = ln := by omega
      rw [HT.out]
      go_wp2_with fail
      go_ret
      exact ⟨rfl, rfl⟩
end Go.Proofs.Ytncfggcbdliepaa
