/- Has, Clone, List, New. -/
import Derived.Test.YtncfggcbdliepaaC
import Derived.Laws.AppendOwnNone
import Derived.Lib.SliceRun
namespace Go.Proofs.Ytncfggcbdliepaa
open Go.RowKit
set_option linter.unusedSimpArgs false
set_option linter.unusedVariables false
set_option maxRecDepth 100000

set_option maxHeartbeats 2000000 in
theorem Has_no (w : World) (g : Nat) (S : Nat → Prop) (N m : Nat) (L : List It) (x : Int) (h : Qw w g S N m L) (hx : (Lit.int .i64 x).wf = true) (hl : look L x = none) :
    Calls Try.prog 15 #[.pointer (some ⟨g, 0, none⟩), .int .i64 x] w fun e w' => e = .returned (.tuple #[.agg #[.int .i64 0, .int .i64 0, .int .i64 0], .int .i64 0, .bool false]) ∧ Below w.heap.size w w' := by
  have AT := Lib.hid (fun (W : World) (hb : Below w.heap.size w W) => at_no W g S N m L x (h.below hb) hx hl)
  clear h hx hl
  go_enter Try.func15, Try.ntmps15
  go_wp2_with fail
  refine (AT.out _ ((Below.refl _ _).alloc (Nat.le_refl _) _)).mono ?_
  rintro e w1 ⟨rfl, b1⟩
  have k1 : w1.heap[w.heap.size]? = some (.cells #[.int .i64 0, .int .i64 0, .int .i64 0] 35 (0, 0)) := (b1.block _ (by simp)).trans (new_block w _)
  have hc : w1.cell? ⟨w.heap.size, 0, none⟩ = some (.int .i64 0) ∧ w1.cell? ⟨w.heap.size, 1, none⟩ = some (.int .i64 0) ∧ w1.cell? ⟨w.heap.size, 2, none⟩ = some (.int .i64 0) ∧ w1.frozen? ⟨w.heap.size, 0, none⟩ = false ∧ w1.frozen? ⟨w.heap.size, 1, none⟩ = false ∧ w1.frozen? ⟨w.heap.size, 2, none⟩ = false := by
    simp [World.cell?, World.frozen?, k1]
  obtain ⟨c0, c1, c2, z0, z1, z2⟩ := hc
  obtain ⟨s0, s1, s2⟩ := set3c k1 (.int .i64 0) (.int .i64 0) (.int .i64 0)
  have B1 : Below w.heap.size w w1 := ((Below.refl _ w).alloc (Nat.le_refl _) _).trans (b1.mono (by simp))
  clear b1 k1
  go_wp2_with fail
  refine bodyPost_ret (v := .tuple #[.agg #[.int .i64 0, .int .i64 0, .int .i64 0], .int .i64 0, .bool false]) (by simp [results, Try.results15, go_sem, s0, s1, s2]) rfl ⟨rfl, ?_⟩
  exact ((B1.setCell (by simp) _).setCell (by simp) _).setCell (by simp) _

set_option maxHeartbeats 2000000 in
theorem Has_yes (w : World) (g : Nat) (S : Nat → Prop) (N m : Nat) (L : List It) (x : Int) (t : It) (h : Qw w g S N m L) (hx : (Lit.int .i64 x).wf = true) (hl : look L x = some t) :
    Calls Try.prog 15 #[.pointer (some ⟨g, 0, none⟩), .int .i64 x] w fun e w' => e = .returned (.tuple #[.agg #[.int .i64 t.id, .int .i64 t.fl, .int .i64 t.ct], .int .i64 t.pr, .bool true]) ∧ Below w.heap.size w w' := by
  have AT := Lib.hid (fun (W : World) (hb : Below w.heap.size w W) => at_yes W g S N m L x t (h.below hb) hx hl)
  obtain ⟨p0, p1, p2, p3⟩ := spot h.ok hl
  obtain ⟨lb, mb, D, vs, h, hS⟩ := h
  obtain ⟨p, hp⟩ := Int.eq_ofNat_of_zero_le p0
  rw [hp] at p1 p2 p3 ⊢
  rw [hp] at AT
  have hpm : p < m := by omega
  obtain ⟨v, hv, cv, -, hrow⟩ := h.cell p hpm
  obtain ⟨A, c, rfl, hlc, hcm, hcell⟩ := row_cells hrow
  obtain ⟨b, rfl, hb, -, hW⟩ := hcell _ t p3
  have hg := h.foot_lt (.inl rfl)
  have hlb := h.foot_lt (.inr (.inl rfl))
  obtain ⟨c0, c1⟩ := h.cells
  unfold maxLen at hcm
  have CC := Lib.hid (fun (W : World) (hB : Below w.heap.size w W) => And.intro ((hB.cell (p := ⟨g, 0, none⟩) hg).trans c0) (And.intro ((hB.cell (p := ⟨lb, p, none⟩) hlb).trans cv) (hW W (hB.block b hb))))
  obtain ⟨ti, tf, tc, tp⟩ := t
  clear h hx hl hS hv hrow hcell hW c0 c1 cv p3 hp p0
  generalize plc (row L p) x = i at *
  generalize (row L p).length = ln at *
  go_enter Try.func15, Try.ntmps15
  go_wp2_with fail
  refine (AT.out _ ((Below.refl _ _).alloc (Nat.le_refl _) _)).mono ?_
  rintro e w1 ⟨rfl, b1⟩
  have k1 : w1.heap[w.heap.size]? = some (.cells #[.int .i64 0, .int .i64 0, .int .i64 0] 35 (0, 0)) := (b1.block _ (by simp)).trans (new_block w _)
  have hc : w1.cell? ⟨w.heap.size, 0, none⟩ = some (.int .i64 0) ∧ w1.cell? ⟨w.heap.size, 1, none⟩ = some (.int .i64 0) ∧ w1.cell? ⟨w.heap.size, 2, none⟩ = some (.int .i64 0) ∧ w1.frozen? ⟨w.heap.size, 0, none⟩ = false ∧ w1.frozen? ⟨w.heap.size, 1, none⟩ = false ∧ w1.frozen? ⟨w.heap.size, 2, none⟩ = false := by
    simp [World.cell?, World.frozen?, k1]
  obtain ⟨c0, c1, c2, z0, z1, z2⟩ := hc
  obtain ⟨s0, s1, s2⟩ := set3c k1 (.int .i64 ti) (.int .i64 tf) (.int .i64 tc)
  have B1 : Below w.heap.size w w1 := ((Below.refl _ w).alloc (Nat.le_refl _) _).trans (b1.mono (by simp))
  obtain ⟨d0, d1, e0, e1, e2, -⟩ := CC.out w1 B1
  clear b1 k1 AT CC
  go_wp2_with fail
  refine bodyPost_ret (v := .tuple #[.agg #[.int .i64 ti, .int .i64 tf, .int .i64 tc], .int .i64 p, .bool true]) (by simp [results, Try.results15, go_sem, s0, s1, s2]) rfl ⟨rfl, ?_⟩
  exact ((B1.setCell (by simp) _).setCell (by simp) _).setCell (by simp) _

/-- The cells of a row, as a list. -/
theorem row_src {w : World} {base : Nat} {e : TypeId} {s : Nat} {v : Value} {n : Nat} {xs : List Value} (h : w.ownsRow base e s v n xs) : ∃ (A : Option Addr) (c : Nat), v = .slice A n c ∧ n ≤ c ∧ c ≤ maxLen ∧ (A = none → n = 0 ∧ c = 0) ∧
    ∀ ad, A = some ad → ad.block < w.heap.size ∧ v.ownBlock = some ad.block ∧ ∀ W : World, W.heap[ad.block]? = w.heap[ad.block]? → ∀ j u, xs[j]? = some u → W.cell? (ad.add j) = some u := by
  rcases h.2 with ⟨rfl, hn⟩ | ⟨g, cap, cur, rfl, hb, hh, hc, hm, hs, ht⟩
  · exact ⟨none, 0, by rw [hn], by omega, Nat.zero_le _, fun _ => ⟨hn, rfl⟩, fun _ e => by cases e⟩
  · refine ⟨_, cap, rfl, hc, hm, (fun e => by cases e), fun ad e => ?_⟩
    cases e
    refine ⟨lt_of_block hh, rfl, fun W hW j u hj => ?_⟩
    rw [hh] at hW
    have e2 : (⟨g, 0, none⟩ : Addr).add j = ⟨g, j, none⟩ := by
      unfold Addr.add; split
      · rename_i h; subst h; rfl
      · simp
    rw [e2]
    simp only [World.cell?, hW]
    rw [← ht] at hj
    have hj2 : j < n * s := by
      have := (List.getElem?_eq_some_iff.1 hj).1
      rw [List.length_take] at this; omega
    rw [List.getElem?_take_of_lt hj2] at hj
    simpa using hj
theorem flat_one (l : List It) : ∀ u ∈ flat l, u.oneCell' = true := by
  intro u hu
  simp only [flat, List.mem_flatMap] at hu
  obtain ⟨t, _, ht⟩ := hu
  simp [enc] at ht
  rcases ht with rfl | rfl | rfl <;> rfl

set_option maxHeartbeats 2000000 in
theorem Clone_any (v : Value) (l : List It) (w : World) (h : w.ownsRow 0 35 3 v l.length (flat l)) (hl : l.length ≤ 100000) :
    Calls Try.prog 31 #[v] w fun e w' => (∃ v', e = .returned v' ∧ w'.ownsRow w.heap.size 35 3 v' l.length (flat l)) ∧ Below w.heap.size w w' := by
  obtain ⟨i35, hi, hz, hs, hy⟩ := info_parts info35
  have I35 := Lib.hid hi; have Z35 := Lib.hid hz; have S35 := Lib.hid hs; have Y35 := Lib.hid hy
  clear hi hz hs hy
  obtain ⟨A, c, rfl, hlc, hcm, hnil, hsrc⟩ := row_src h
  unfold maxLen at hcm
  have FL := Lib.hid (flat_len l)
  have FO := Lib.hid (flat_one l)
  cases A with
  | none =>
    obtain ⟨h0, rfl⟩ := hnil rfl
    obtain rfl : l = [] := List.eq_nil_of_length_eq_zero h0
    clear h hsrc hnil FL FO
    simp only [List.length_nil]
    have qn := fun w => Lib.run_eql_slice_nil (P := Try.prog) w 32 35 none 0 0 0 0 Try.underlying32
    go_enter Try.func31, Try.ntmps31
    go_wp2_with fail
    go_ret
    exact ⟨⟨_, rfl, World.ownsRow_nil _ _ _ _⟩, Below.refl _ _⟩
  | some ad =>
    obtain ⟨ha, -, hW⟩ := hsrc ad rfl
    have HW := Lib.hid hW
    have hown0 : (w.alloc (.cells #[] 35)).ownsRow w.heap.size 35 3 (.slice (some ⟨w.heap.size, 0, none⟩) 0 0) 0 [] := World.ownsRow_made (base := w.heap.size) (e := 35) (size := 3) w #[] 0 (Nat.le_refl _) (Nat.zero_le _) (by simp)
    clear h hsrc hnil hW
    generalize flat l = xs at *
    generalize l.length = n at *
    have qn := fun w => Lib.run_eql_slice_nil (P := Try.prog) w 32 35 (some ad) n c 0 0 Try.underlying32
    go_enter Try.func31, Try.ntmps31
    go_wp2_with (at_builtin; refine wpList_append_own _ rfl _ _ 32 rfl w.heap.size 35 i35 _ 3 24 Try.underlying32 I35.out Z35.out S35.out Y35.out rfl (by decide) _ _ _ rfl hown0 ad n c xs rfl FL.out (HW.out _ (Below.heap_alloc _ _ _ ha)) FO.out (by unfold maxLen; omega) (by omega) (by simp) ?_; intro v' w5 hown' hgrow _; have hb5 : Below w.heap.size w w5 := ((Below.refl _ w).alloc (Nat.le_refl _) _).grown hgrow (by simp) (fun k e => by cases e; exact Nat.le_refl _); clear hgrow hown0)
    simp only [Nat.zero_add, List.nil_append] at hown'
    go_ret
    exact ⟨⟨_, rfl, hown'⟩, hb5⟩
end Go.Proofs.Ytncfggcbdliepaa
