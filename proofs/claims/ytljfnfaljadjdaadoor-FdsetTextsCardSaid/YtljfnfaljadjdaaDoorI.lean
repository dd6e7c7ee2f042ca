/- fdset.Of, ref.Next, ref.Below. -/
import Derived.Test.YtljfnfaljadjdaaDoorH
namespace Go.Proofs.YtljfnfaljadjdaaDoor
open Go.RowKit
set_option linter.unusedSimpArgs false
set_option linter.unusedVariables false
set_option maxRecDepth 100000

/-- The words of the set of a list. -/
def wd (l : List Int) : Nat × Nat := l.foldl (fun p x => (wiA p.1 x.toNat, wiB p.2 x.toNat)) (0, 0)
theorem wd_snoc (l : List Int) (x : Int) : wd (l ++ [x]) = (wiA (wd l).1 x.toNat, wiB (wd l).2 x.toNat) := by simp [wd]
theorem wd_take (l : List Int) (k : Nat) (hk : k < l.length) : wd (l.take (k + 1)) = (wiA (wd (l.take k)).1 (l[k]).toNat, wiB (wd (l.take k)).2 (l[k]).toNat) := by
  rw [List.take_succ_eq_append_getElem hk, wd_snoc]
theorem snoc_ind {α : Type} {P : List α → Prop} (h0 : P []) (h1 : ∀ l x, P l → P (l ++ [x])) (l : List α) : P l := by
  have h : ∀ m : List α, P m.reverse := by
    intro m
    induction m with
    | nil => exact h0
    | cons x m ih => rw [List.reverse_cons]; exact h1 _ _ ih
  have := h l.reverse
  rwa [List.reverse_reverse] at this
theorem wd_lt (l : List Int) (h : ∀ x ∈ l, 0 ≤ x ∧ x < 64) : (wd l).1 < 4294967296 ∧ (wd l).2 < 4294967296 := by
  revert h
  refine snoc_ind (P := fun l => (∀ x ∈ l, 0 ≤ x ∧ x < 64) → (wd l).1 < 4294967296 ∧ (wd l).2 < 4294967296) ?_ ?_ l
  · intro _; exact ⟨by decide, by decide⟩
  · intro l x ih h
    obtain ⟨i1, i2⟩ := ih (fun y hy => h y (by simp [hy]))
    have hx := h x (by simp)
    rw [wd_snoc]
    exact ⟨wi_lt _ _ i1 (by omega), wi_lt' _ _ i2 (by omega)⟩
theorem wd_has (l : List Int) (h : ∀ x ∈ l, 0 ≤ x ∧ x < 64) (n : Nat) (hn : n < 64) : hasN (wd l).1 (wd l).2 n = inL l n := by
  revert h
  refine snoc_ind (P := fun l => (∀ x ∈ l, 0 ≤ x ∧ x < 64) → hasN (wd l).1 (wd l).2 n = inL l n) ?_ ?_ l
  · intro _; simp [wd, inL, has_zero]
  · intro l x ih h
    have hx := h x (by simp)
    rw [wd_snoc, has_wi _ _ _ _ (by omega) hn, ih (fun y hy => h y (by simp [hy])), inL_app, Int.toNat_of_nonneg hx.1]

theorem Sb.frame {w w' : World} {g a b : Nat} (h : Sb w g a b) (e : w'.heap[g]? = w.heap[g]?) : Sb w' g a b := e.trans h

theorem Sb.full {w : World} {g a b : Nat} (h : Sb w g a b) : w.cell? ⟨g, 0, none⟩ = some (.int .u32 a) ∧ w.cell? ⟨g, 1, none⟩ = some (.int .u32 b) ∧ w.frozen? ⟨g, 0, none⟩ = false ∧ w.frozen? ⟨g, 1, none⟩ = false := by
  unfold Sb at h; simp [World.cell?, World.frozen?, h]
theorem Sb.put {w : World} {g a b : Nat} (h : Sb w g a b) (c d : Nat) : Sb ((w.setCell ⟨g, 0, none⟩ (.int .u32 c)).setCell ⟨g, 1, none⟩ (.int .u32 d)) g c d := by
  unfold Sb at h ⊢
  simp [World.setCell, Array.getElem?_modify, h]
theorem Sb.other {w : World} {g a b g' : Nat} (h : Sb w g a b) (c d : Value) (hne : g' ≠ g) : Sb ((w.setCell ⟨g', 0, none⟩ c).setCell ⟨g', 1, none⟩ d) g a b := by
  unfold Sb at h ⊢
  simp [World.setCell, Array.getElem?_modify, h, hne]

/-- What the loop of Of keeps: the result's cell at g, the set at g + 1. -/
structure OfS (w wr : World) (a b : Nat) : Prop where
  r : Sb wr w.heap.size 0 0
  s : Sb wr (w.heap.size + 1) a b
  bel : Below w.heap.size w wr

set_option maxHeartbeats 2000000 in
theorem fof_ok (A : Option Addr) (c : Nat) (l : List Int) (w : World) (hz : Ints .i64 w A l) (hl : l.length ≤ 300) (hc : l.length ≤ c) (hin : ∀ x ∈ l, 0 ≤ x ∧ x < 64) :
    Calls Tryd.prog 13 #[.slice A l.length c] w fun e w' => e = .returned (.tuple #[sv (wd l).1 (wd l).2, .int .i64 0]) ∧ Below w.heap.size w w' := by
  have HZ := Lib.hid hz; clear hz
  have HIN := Lib.hid hin; clear hin
  generalize hr : sv (wd l).1 (wd l).2 = rv
  have HR := Lib.hid hr; clear hr
  go_enter Tryd.func13, Tryd.ntmps13
  go_wp2
  go_loopw [11] (fun i wr => ∃ k : Nat, k ≤ l.length ∧ i = .int .i64 k ∧ OfS w wr (wd (l.take k)).1 (wd (l.take k)).2) (fun i _ => l.length - (intOf i).toNat)
  case atStart => exact ⟨0, Nat.zero_le _, rfl, ⟨(Sb.new w 0 0).below ((Below.refl _ _).alloc (Nat.le_refl _) _) (by simp), by show Sb _ (w.heap.size + 1) 0 0; have := Sb.new (w.alloc (.cells #[.int .u32 0, .int .u32 0] 24)) 0 0; simpa using this, ((Below.refl _ _).alloc (Nat.le_refl _) _).alloc (by simp) _⟩⟩
  case round =>
    obtain ⟨k, hk, rfl, T⟩ := hrel
    by_cases hlt : k < l.length
    · obtain ⟨b, off, rfl, hb, hcc⟩ := HZ.out (by omega)
      have hck := (T.bel.cell (p := ⟨b, off + k, none⟩) hb).trans (hcc k hlt)
      clear hcc
      rw [getD_get l k hlt] at hck
      have hb2 := HIN.out _ (List.getElem_mem hlt)
      have W1 := Lib.hid (wd_take l k hlt)
      have hlt2 := wd_lt (l.take k) (fun x hx => HIN.out x (List.mem_of_mem_take hx))
      generalize hx : l[k] = x at hck hb2 W1
      clear hx
      obtain ⟨hb2, hb3⟩ := hb2
      obtain ⟨hl1, hl2⟩ := hlt2
      generalize (wd (l.take k)).1 = p at *
      generalize (wd (l.take k)).2 = q at *
      obtain ⟨x0, x1⟩ := T.s.cells
      go_wp2_with fail
      refine (with_yes p q x _ hl1 hl2 hb2 hb3).mono ?_
      rintro e w1 ⟨rfl, b1⟩
      have W2 := W1.out; clear W1
      rw [Prod.ext_iff] at W2
      obtain ⟨W2, W3⟩ := W2
      simp only at W2 W3
      generalize wiA p x.toNat = p' at *
      generalize wiB q x.toNat = q' at *
      have H2 := Lib.hid W2; have H3 := Lib.hid W3; clear W2 W3
      have b2 : Below w1.heap.size w1 (w1.alloc (.cells #[.int .u32 p', .int .u32 q'] 24)) := (Below.refl _ _).alloc (Nat.le_refl _) _
      have S2 := (T.s.below b1 T.s.lt).below b2 (T.s.below b1 T.s.lt).lt
      have R2 := (T.r.below b1 T.r.lt).below b2 (T.r.below b1 T.r.lt).lt
      have B2 := (T.bel.trans (b1.mono T.bel.size)).trans (b2.mono (Nat.le_trans T.bel.size b1.size))
      obtain ⟨y0, y1, y2, y3⟩ := S2.full
      clear x0 x1 b1 T b2
      simp only [sv]
      go_wp2_with fail
      go_roundw
      case rel => exact ⟨k + 1, by omega, by go_num, by rw [H2.out, H3.out]; exact ⟨R2.other _ _ (by omega), S2.put _ _, (B2.setCell (by simp) _).setCell (by simp) _⟩⟩
      case measure => simp [intOf]; omega
    · obtain ⟨x0, x1, x2, x3⟩ := T.s.full
      obtain ⟨z0, z1, z2, z3⟩ := T.r.full
      have hk2 : l.take k = l := List.take_of_length_le (by omega)
      rw [hk2] at x0 x1 T
      have HB := Lib.hid T.bel
      have TR := Lib.hid T.r
      clear T hk2
      generalize (wd l).1 = p at *
      generalize (wd l).2 = q at *
      go_wp2_with fail
      rw [← HR.out]
      obtain ⟨f0, f1⟩ := (TR.out.put p q).cells
      refine bodyPost_ret (v := .tuple #[.agg #[.int .u32 p, .int .u32 q], .int .i64 0]) (by simp [results, Tryd.results13, go_sem, f0, f1]) rfl ⟨rfl, ?_⟩
      exact (HB.out.setCell (by simp) _).setCell (by simp) _

set_option maxHeartbeats 2000000 in
theorem fof_bad (A : Option Addr) (c : Nat) (l : List Int) (w : World) (hz : Ints .i64 w A l) (hl : l.length ≤ 300) (hc : l.length ≤ c) (hin : ∃ x ∈ l, x < 0 ∨ 64 ≤ x) :
    Calls Tryd.prog 13 #[.slice A l.length c] w fun e w' => e = .returned (.tuple #[sv 0 0, .int .i64 10]) ∧ Below w.heap.size w w' := by
  have HZ := Lib.hid hz; clear hz
  have HIN := Lib.hid hin; clear hin
  go_enter Tryd.func13, Tryd.ntmps13
  go_wp2
  go_loopw [11] (fun i wr => ∃ k : Nat, k ≤ l.length ∧ i = .int .i64 k ∧ (∀ x ∈ l.take k, 0 ≤ x ∧ x < 64) ∧ OfS w wr (wd (l.take k)).1 (wd (l.take k)).2) (fun i _ => l.length - (intOf i).toNat)
  case atStart => exact ⟨0, Nat.zero_le _, rfl, by simp, ⟨(Sb.new w 0 0).below ((Below.refl _ _).alloc (Nat.le_refl _) _) (by simp), by show Sb _ (w.heap.size + 1) 0 0; have := Sb.new (w.alloc (.cells #[.int .u32 0, .int .u32 0] 24)) 0 0; simpa using this, ((Below.refl _ _).alloc (Nat.le_refl _) _).alloc (by simp) _⟩⟩
  case round =>
    obtain ⟨k, hk, rfl, hall, T⟩ := hrel
    have HA := Lib.hid hall; clear hall
    by_cases hlt : k < l.length
    · obtain ⟨b, off, rfl, hb, hcc⟩ := HZ.out (by omega)
      have hck := (T.bel.cell (p := ⟨b, off + k, none⟩) hb).trans (hcc k hlt)
      clear hcc
      rw [getD_get l k hlt] at hck
      have W1 := Lib.hid (wd_take l k hlt)
      have HT := Lib.hid (all_take_step l (fun x => 0 ≤ x ∧ x < 64) k hlt HA.out)
      have hlt2 := wd_lt (l.take k) HA.out
      generalize hx : l[k] = x at hck W1 HT
      clear hx
      obtain ⟨hl1, hl2⟩ := hlt2
      generalize (wd (l.take k)).1 = p at *
      generalize (wd (l.take k)).2 = q at *
      obtain ⟨x0, x1⟩ := T.s.cells
      by_cases hbx : 0 ≤ x ∧ x < 64
      · obtain ⟨hb2, hb3⟩ := hbx
        have HT2 := Lib.hid (HT.out ⟨hb2, hb3⟩)
        go_wp2_with fail
        refine (with_yes p q x _ hl1 hl2 hb2 hb3).mono ?_
        rintro e w1 ⟨rfl, b1⟩
        have W2 := W1.out; clear W1
        rw [Prod.ext_iff] at W2
        obtain ⟨W2, W3⟩ := W2
        simp only at W2 W3
        generalize wiA p x.toNat = p' at *
        generalize wiB q x.toNat = q' at *
        have H2 := Lib.hid W2; have H3 := Lib.hid W3; clear W2 W3
        have b2 : Below w1.heap.size w1 (w1.alloc (.cells #[.int .u32 p', .int .u32 q'] 24)) := (Below.refl _ _).alloc (Nat.le_refl _) _
        have S2 := (T.s.below b1 T.s.lt).below b2 (T.s.below b1 T.s.lt).lt
        have R2 := (T.r.below b1 T.r.lt).below b2 (T.r.below b1 T.r.lt).lt
        have B2 := (T.bel.trans (b1.mono T.bel.size)).trans (b2.mono (Nat.le_trans T.bel.size b1.size))
        obtain ⟨y0, y1, y2, y3⟩ := S2.full
        clear x0 x1 b1 T b2
        simp only [sv]
        go_wp2_with fail
        go_roundw
        case rel => exact ⟨k + 1, by omega, by go_num, HT2.out, by rw [H2.out, H3.out]; exact ⟨R2.other _ _ (by omega), S2.put _ _, (B2.setCell (by simp) _).setCell (by simp) _⟩⟩
        case measure => simp [intOf]; omega
      · have hbx' : x < 0 ∨ 64 ≤ x := by omega
        have HX := Lib.hid hbx'; clear hbx hbx'
        go_wp2_with fail
        refine (with_no p q x _ HX.out).mono ?_
        rintro e w1 ⟨rfl, b1⟩
        have b2 : Below w1.heap.size w1 (w1.alloc (.cells #[.int .u32 0, .int .u32 0] 24)) := (Below.refl _ _).alloc (Nat.le_refl _) _
        have R2 := (T.r.below b1 T.r.lt).below b2 (T.r.below b1 T.r.lt).lt
        have B2 := (T.bel.trans (b1.mono T.bel.size)).trans (b2.mono (Nat.le_trans T.bel.size b1.size))
        obtain ⟨y0, y1, y2, y3⟩ := R2.full
        clear x0 x1 b1 T b2
        simp only [sv]
        go_wp2_with fail
        obtain ⟨f0, f1⟩ := (R2.put 0 0).cells
        refine bodyPost_ret (v := .tuple #[.agg #[.int .u32 0, .int .u32 0], .int .i64 10]) (by simp at f0 f1; simp [results, Tryd.results13, go_sem, f0, f1]) rfl ⟨rfl, ?_⟩
        exact (B2.setCell (by simp) _).setCell (by simp) _
    · exfalso
      obtain ⟨x, hx, hx2⟩ := HIN.out
      have := HA.out x (by rw [List.take_of_length_le (by omega)]; exact hx)
      omega

/-- The first number of a list that is at least n. -/
def nextOf (l : List Int) (n : Int) : Option Int := l.find? (fun x => decide (n ≤ x))
theorem next_step (l : List Int) (n : Int) (k : Nat) (hk : k < l.length) (h : nextOf l n = nextOf (l.drop k) n) (hne : l[k] < n) : nextOf l n = nextOf (l.drop (k + 1)) n := by
  rw [h, List.drop_eq_getElem_cons hk]
  unfold nextOf
  rw [List.find?_cons]
  simp [show ¬ n ≤ l[k] by omega]
theorem next_hit (l : List Int) (n : Int) (k : Nat) (hk : k < l.length) (h : nextOf l n = nextOf (l.drop k) n) (hge : n ≤ l[k]) : nextOf l n = some l[k] := by
  rw [h, List.drop_eq_getElem_cons hk]
  unfold nextOf
  rw [List.find?_cons]
  simp [hge]

/-- The numbers of a list that are below n. -/
def belowOf (l : List Int) (n : Int) : List Int := l.filter (fun x => decide (x < n))
theorem below_yes (l : List Int) (n : Int) (k : Nat) (hk : k < l.length) (h : l[k] < n) : belowOf (l.take (k + 1)) n = belowOf (l.take k) n ++ [l[k]] := by
  rw [List.take_succ_eq_append_getElem hk]; unfold belowOf; rw [List.filter_append, List.filter_cons]; simp only [h, decide_true, decide_false, if_true, List.filter_nil]
theorem below_no (l : List Int) (n : Int) (k : Nat) (hk : k < l.length) (h : ¬ l[k] < n) : belowOf (l.take (k + 1)) n = belowOf (l.take k) n := by
  rw [List.take_succ_eq_append_getElem hk]; unfold belowOf; rw [List.filter_append, List.filter_cons]; simp only [h, decide_true, decide_false, if_true, List.filter_nil]; simp
theorem below_len (l : List Int) (n : Int) (k : Nat) : (belowOf (l.take k) n).length ≤ l.length := by
  refine Nat.le_trans (List.length_filter_le _ _) ?_
  simp; omega

end Go.Proofs.YtljfnfaljadjdaaDoor
