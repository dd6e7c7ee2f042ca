/- Where two lists part; whether they are the same. -/
import Derived.Deep.RegionHeld3
import Derived.Deep.RegionLaw
import Derived.Deep.Upon
import Derived.Deep.Cut
import Derived.Deep.CutBlock
import Derived.Deep.DeepCutAuto
import Derived.Deep.AppendLies
import Derived.Laws.AppendOwnNone
import Derived.Laws.Rows
import Derived.WalkMore
import Derived.Carry
import Derived.Test.YtbanfkpfijcmcaaGreatDoorA
namespace Go.Proofs.YtbanfkpfijcmcaaGreatDoor
open Go.RowKit
set_option linter.unusedSimpArgs false
set_option linter.unusedVariables false
set_option maxRecDepth 100000

theorem ents_at {xs : List Ex} {k : Nat} {x : Ex} (h : xs[k]? = some x) : (ents xs)[k]? = some x.e := by simp [ents, h]
theorem ents_len (xs : List Ex) : (ents xs).length = xs.length := by simp [ents]
theorem parts_short {a b : List En} {k : Nat} (h : k ≤ cpl a b) (ha : k < a.length) (hb : b.length ≤ k) : partsF a b = k := by
  have := cpl_le a b
  unfold partsF
  rw [if_neg (by omega)]
  omega
theorem parts_short' {a b : List En} {k : Nat} (h : k ≤ cpl a b) (ha : a.length ≤ k) (hb : k < b.length) : partsF a b = k := by
  have := cpl_le a b
  unfold partsF
  rw [if_neg (by omega)]
  omega
theorem parts_go {a b : List En} {k : Nat} {x y : En} (h : k ≤ cpl a b) (hx : a[k]? = some x) (hy : b[k]? = some y) (ho : oneF x y = true) : k + 1 ≤ cpl a b := by
  by_cases hk : k = cpl a b
  · subst hk
    rw [cpl_at hx hy] at ho
    cases ho
  · omega
theorem parts_stop {a b : List En} {k : Nat} {x y : En} (h : k ≤ cpl a b) (hx : a[k]? = some x) (hy : b[k]? = some y) (ho : oneF x y = false) : partsF a b = k ∧ sameF a b = false := by
  have ha := (List.getElem?_eq_some_iff.1 hx).1
  have hk : k = cpl a b := by
    rcases Nat.lt_or_ge k (cpl a b) with hk | hk
    · obtain ⟨z, h1, h2⟩ := cpl_lt hk
      rw [hx] at h1; rw [hy] at h2
      cases h1; cases h2
      rw [oneF_self] at ho; cases ho
    · omega
  have : ¬ (cpl a b = a.length ∧ cpl a b = b.length) := by omega
  refine ⟨?_, ?_⟩
  · unfold partsF
    rw [if_neg this]; omega
  · unfold sameF; simpa using this
theorem parts_end {a b : List En} {k : Nat} (h : k ≤ cpl a b) (ha : a.length ≤ k) (hb : b.length ≤ k) : partsF a b = -1 ∧ sameF a b = true := by
  have := cpl_le a b
  have h2 : cpl a b = a.length ∧ cpl a b = b.length := by omega
  exact ⟨by unfold partsF; rw [if_pos h2], by unfold sameF; simpa using h2⟩
theorem same_parts (a b : List En) : decide (partsF a b < 0) = sameF a b := by
  unfold partsF sameF
  by_cases h : cpl a b = a.length ∧ cpl a b = b.length
  · rw [if_pos h, decide_eq_true h]; rfl
  · rw [if_neg h]
    rw [decide_eq_false (by omega), decide_eq_false h]

/-- The cells of an entry. -/
def Two7 (W : World) (b k : Nat) (x : Ex) : Prop := W.cell? ⟨b, k, none⟩ = some (.int .i64 x.e.kd) ∧ W.cell? ⟨b, k + 1, none⟩ = some (.int .u64 x.e.tk) ∧ W.cell? ⟨b, k + 2, none⟩ = some (.int .i64 x.e.id) ∧ W.cell? ⟨b, k + 3, none⟩ = some (.int .i64 x.e.fl) ∧ W.cell? ⟨b, k + 4, none⟩ = some (.int .i64 x.e.nn) ∧ W.cell? ⟨b, k + 5, none⟩ = some (.int .i64 x.e.er) ∧ W.cell? ⟨b, k + 6, none⟩ = some x.dv
/-- Entries that are read. -/
def Rd (w : World) (v : Value) (es : List En) : Prop := ∃ A c, v = .slice A es.length c ∧ es.length ≤ c ∧ c ≤ maxLen ∧ ∀ k, k < es.length → ∃ (x : Ex) (b off : Nat), es[k]? = some x.e ∧ A = some ⟨b, off, none⟩ ∧ DataAt w x.dv x.e.dt ∧ ∀ W : World, Below w.heap.size w W → Two7 W b (off + k * 7) x
theorem Rd.of {w : World} {v : Value} {xs : List Ex} (h : EntsAt w v xs) : Rd w v (ents xs) := by
  obtain ⟨A, c, e, h1, h2, h3⟩ := h.one
  refine ⟨A, c, by rw [ents_len]; exact e, by rw [ents_len]; exact h1, h2, fun k hk => ?_⟩
  obtain ⟨x, b, off, hx, hA, hd, hc⟩ := h3 k (by rw [ents_len] at hk; exact hk)
  exact ⟨x, b, off, ents_at hx, hA, hd, hc⟩
theorem Rd.below {w w' : World} {v : Value} {es : List En} (h : Rd w v es) (hb : Below w.heap.size w w') : Rd w' v es := by
  obtain ⟨A, c, e, h1, h2, h3⟩ := h
  refine ⟨A, c, e, h1, h2, fun k hk => ?_⟩
  obtain ⟨x, b, off, hx, hA, hd, hc⟩ := h3 k hk
  exact ⟨x, b, off, hx, hA, hd.below hb, fun W hW => hc W (hb.trans (hW.mono hb.size))⟩
/-- One of them, its slice laid open. -/
theorem Rd.one {w : World} {v : Value} {es : List En} (h : Rd w v es) : ∃ A c, v = .slice A es.length c ∧ es.length ≤ c ∧ c ≤ maxLen ∧ ∀ k, k < es.length → ∃ (x : En) (Ad : Option Addr) (cd b off : Nat), es[k]? = some x ∧ A = some ⟨b, off, none⟩ ∧ DataAt w (.slice Ad x.dt.length cd) x.dt ∧ ∀ W : World, Below w.heap.size w W → (W.cell? ⟨b, off + k * 7, none⟩ = some (.int .i64 x.kd) ∧ W.cell? ⟨b, off + k * 7 + 1, none⟩ = some (.int .u64 x.tk) ∧ W.cell? ⟨b, off + k * 7 + 2, none⟩ = some (.int .i64 x.id) ∧ W.cell? ⟨b, off + k * 7 + 3, none⟩ = some (.int .i64 x.fl) ∧ W.cell? ⟨b, off + k * 7 + 4, none⟩ = some (.int .i64 x.nn) ∧ W.cell? ⟨b, off + k * 7 + 5, none⟩ = some (.int .i64 x.er) ∧ W.cell? ⟨b, off + k * 7 + 6, none⟩ = some (.slice Ad x.dt.length cd)) := by
  obtain ⟨A, c, e, h1, h2, h3⟩ := h
  refine ⟨A, c, e, h1, h2, fun k hk => ?_⟩
  obtain ⟨⟨x, dv⟩, b, off, hx, hA, hd, hc⟩ := h3 k hk
  obtain ⟨Ad, cd, hdv, h4⟩ := id hd
  simp only at hdv
  subst hdv
  exact ⟨x, Ad, cd, b, off, hx, hA, hd, hc⟩

end Go.Proofs.YtbanfkpfijcmcaaGreatDoor
