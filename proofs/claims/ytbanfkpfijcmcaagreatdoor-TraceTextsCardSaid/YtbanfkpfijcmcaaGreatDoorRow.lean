/- Rows of the call's own, and slices of integers as lists. -/
import Derived.Test.YtbanfkpfijcmcaaGreatDoorBase
import Derived.Laws.AppendOwn
import Derived.Maps.AppendAt
import Derived.BigRegion
import Derived.Deep.RegionHeld3
import Derived.Deep.Slices
namespace Go.Proofs.YtbanfkpfijcmcaaGreatDoor
open Go.ChangeShapes Go.WideShapes Go.ChangeAt Go.RowKit
set_option linter.unusedSimpArgs false
set_option linter.unusedVariables false

theorem lt_of_block {w : World} {g : Nat} {o : Obj} (h : w.heap[g]? = some o) : g < w.heap.size := (Array.getElem?_eq_some_iff.1 h).1
theorem Ints.below {kd : IntKind} {w w' : World} {a : Option Addr} {zs : List Int} (h : Ints kd w a zs) (hb : Below w.heap.size w w') : Ints kd w' a zs := by
  intro h0
  obtain ⟨b, off, e, hlt, hc⟩ := h h0
  exact ⟨b, off, e, Nat.lt_of_lt_of_le hlt hb.size, fun i hi => (hb.cell (p := ⟨b, off + i, none⟩) hlt).trans (hc i hi)⟩
theorem Ints.drewN {kd : IntKind} {w : World} {a : Option Addr} {zs : List Int} (h : Ints kd w a zs) (n : Nat) : Ints kd (w.drewN n) a zs := h
theorem row_form {W : World} {base : Nat} {e : TypeId} {s : Nat} {v : Value} {n : Nat} {xs : List Value} (h : W.ownsRow base e s v n xs) : ∃ A c, v = .slice A n c ∧ n ≤ c := by
  rcases h.2 with ⟨rfl, rfl⟩ | ⟨g, cap, cur, rfl, _, _, hn, _⟩
  · exact ⟨_, _, rfl, Nat.le_refl _⟩
  · exact ⟨_, _, rfl, hn⟩
theorem row_ints {W : World} {base : Nat} {e : TypeId} {A : Option Addr} {n c : Nat} {kd : IntKind} {zs : List Int} (h : W.ownsRow base e 1 (.slice A n c) n (zs.map (Value.int kd))) : Ints kd W A zs := by
  have hn : n = zs.length := by have := h.1; simp at this; omega
  subst hn
  intro h0
  have h1 := h
  rcases h.2 with ⟨hv, hn⟩ | ⟨g, cap, cur, hv, hb, hh, _⟩
  · omega
  · injection hv with hA _ hc
    subst hA hc
    refine ⟨g, 0, rfl, lt_of_block hh, fun i hi => ?_⟩
    rw [Nat.zero_add, h1.cellAt i (by omega), List.getElem?_map, List.getElem?_eq_getElem hi]
    simp [List.getD, hi]
theorem grown_refl (w : World) (r : Option Nat) : w.grownBy w r := ⟨rfl, rfl, rfl, Nat.le_refl _, fun _ _ _ => rfl⟩
theorem grown_trans {a b c : World} {r : Option Nat} (h : a.grownBy b r) (k : b.grownBy c r) : a.grownBy c r :=
  ⟨k.os.trans h.os, k.tape.trans h.tape, k.output.trans h.output, Nat.le_trans h.size k.size, fun i hi hne => (k.block i (Nat.lt_of_lt_of_le hi h.size) hne).trans (h.block i hi hne)⟩
theorem grown_alloc (w : World) (o : Obj) (r : Option Nat) : w.grownBy (w.alloc o) r := ⟨rfl, rfl, rfl, by simp, fun i hi _ => Below.heap_alloc w o i hi⟩
theorem grown_drewN {w w' : World} {r : Option Nat} (h : w.grownBy w' r) (n : Nat) : w.grownBy (w'.drewN n) r := ⟨h.os, h.tape, h.output, h.size, h.block⟩
theorem grown_undrew {w w' : World} {r : Option Nat} (h : w.drew.grownBy w' r) : w.grownBy w' r := ⟨h.os, h.tape, h.output, h.size, h.block⟩
theorem grown_of_below {a w : World} (h : Below a.heap.size a w) (row : Option Nat) : a.grownBy w row := ⟨h.os, h.tape, h.output, h.size, fun i hi _ => h.block i hi⟩
/-- Behind an append onto a row from 'base' on: what lies below 'base' is as it was. -/
theorem below_append {B base : Nat} {a w w' : World} {o : Obj} {e : TypeId} {s : Nat} {v : Value} {n : Nat} {xs : List Value} (h : Below B a w) (hown : w.ownsRow base e s v n xs) (hg : (w.alloc o).grownBy w' v.ownBlock) (hB : B ≤ base) (hs : base ≤ w.heap.size) : Below B a w' := by
  have h1 : Below B a (w.alloc o) := h.alloc (by omega) o
  refine h1.grown hg (by simp; omega) (fun k e => ?_)
  have := (hown.lt k e).1
  omega
end Go.Proofs.YtbanfkpfijcmcaaGreatDoor
