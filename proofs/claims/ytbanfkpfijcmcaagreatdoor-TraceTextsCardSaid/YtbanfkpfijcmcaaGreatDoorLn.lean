/- line: its lemmas. -/
import Derived.Test.YtbanfkpfijcmcaaGreatDoorCk
import Derived.Lib.ItoaLen
namespace Go.Proofs.YtbanfkpfijcmcaaGreatDoor
open Go.RowKit
set_option linter.unusedSimpArgs false
set_option linter.unusedVariables false
set_option maxRecDepth 100000

theorem info9 : (Tryz.prog.info? 9).map (fun i => (i.zero, i.size, i.bytes)) = some (some (.string ⟨#[]⟩), 1, 16) := by kernel_rfl
theorem row_made {w : World} {g base : Nat} {cur : Array Value} {e : TypeId} (h : w.heap[g]? = some (.cells cur e (0, 0))) (hb : base ≤ g) (hm : cur.size ≤ maxLen) : w.ownsRow base e 1 (.slice (some ⟨g, 0, none⟩) cur.size cur.size) cur.size cur.toList :=
  ⟨by simp, .inr ⟨g, cur.size, cur, rfl, hb, h, Nat.le_refl _, hm, by simp, by rw [Nat.mul_one, List.take_of_length_le (by simp)]⟩⟩
theorem join_row {W : World} {base : Nat} {v : Value} {xs : List ByteArray} {n : Nat} (hrow : W.ownsRow base 9 1 v n (xs.map Value.string)) (hn : xs.length = n) (hl : 0 < n) (hl2 : n ≤ 1000) (hjn : (Lib.join (xs.map (·.data.toList)) [32]).length ≤ 140737488355328) :
    Calls Tryz.prog 45 #[v, .string ⟨#[32]⟩] W fun e w' => e = .returned (.string ⟨(Lib.join (xs.map (·.data.toList)) [32]).toArray⟩) ∧ Below W.heap.size W w' := by
  subst hn
  rcases hrow.2 with ⟨rfl, h0⟩ | ⟨g, cap, cur, rfl, hb, hh, hn, _, _, ht⟩
  · omega
  · refine Tryz.strings_Join g 0 cap xs ⟨#[32]⟩ W (fun j x hx => ?_) (lt_of_block hh) (by omega) hn hjn
    have hj : j < xs.length := (List.getElem?_eq_some_iff.1 hx).1
    have hj2 : (xs.map Value.string)[j]? = some (.string x) := by rw [List.getElem?_map, hx]; rfl
    rw [← ht, Nat.mul_one, List.getElem?_take_of_lt (by omega)] at hj2
    rw [Nat.zero_add, (cell_of hh j).1, ← Array.getElem?_toList]
    exact hj2
/-- What a string weighs. -/
theorem mk_size (l : List UInt8) : (⟨l.toArray⟩ : ByteArray).size = l.length := List.size_toArray

theorem far_row {w1 w2 : World} {o : Obj} {r : Option Nat} (g : (w1.alloc o).grownBy w2 r) {a : Addr} {u : Value} (h : w1.cell? a = some u) (hne : r ≠ some a.block) : w2.cell? a = some u ∧ w2.frozen? a = w1.frozen? a :=
  have hl := (cell_lt h).1
  have e := (g.block a.block (by simp; omega) (fun e => hne e.symm)).trans (Below.heap_alloc _ _ _ hl)
  ⟨(World.cell?_of_block e).trans h, World.frozen?_of_block e⟩
theorem row_not {w : World} {base : Nat} {e e' : TypeId} {s : Nat} {v : Value} {n : Nat} {xs : List Value} {b : Nat} {cs : Array Value} {fr : Nat × Nat} (h : w.ownsRow base e s v n xs) (hb : w.heap[b]? = some (.cells cs e' fr)) (hne : e' ≠ e) : v.ownBlock ≠ some b := by
  rcases h.2 with ⟨rfl, _⟩ | ⟨g, cap, cur, rfl, _, hg, _⟩
  · intro e; cases e
  · intro e2
    obtain rfl : g = b := by simpa [Value.ownBlock] using e2
    rw [hg] at hb
    cases hb
    exact hne rfl
def strV (x : List UInt8) : Value := .string ⟨x.toArray⟩
theorem join_rowL {W : World} {base : Nat} {v : Value} {l : List (List UInt8)} {n : Nat} (hrow : W.ownsRow base 9 1 v n (l.map strV)) (hn : l.length = n) (hl : 0 < n) (hl2 : n ≤ 1000) (hjn : (Lib.join l [32]).length ≤ 140737488355328) :
    Calls Tryz.prog 45 #[v, .string ⟨#[32]⟩] W fun e w' => e = .returned (.string ⟨(Lib.join l [32]).toArray⟩) ∧ Below W.heap.size W w' := by
  have h : (l.map fun x => (⟨x.toArray⟩ : ByteArray)).map (·.data.toList) = l := by
    rw [List.map_map]; exact List.map_id' l
  have hj := join_row (xs := l.map fun x => (⟨x.toArray⟩ : ByteArray)) (n := n) (by rw [List.map_map]; exact hrow) (by simpa using hn) hl hl2 (by rw [h]; exact hjn)
  rw [h] at hj
  exact hj
theorem dec_len (t : Nat) (h : t < 18446744073709551616) : (Lib.decDigits t).length ≤ 20 := by
  rw [Lib.decDigits_length]; exact Lib.nDigits_le20 t h
theorem hexL_len (d : List UInt8) : (hexL d).length ≤ 2 * d.length + 1 := by
  unfold hexL; split
  · simp
  · rw [hex_len]; omega
theorem tx_len (m : Int) : (Fl.txL 0 m).length ≤ 54 := by
  unfold Fl.txL
  split
  · simp
  · split
    · simp
    · exact Fl.wds_join 0 (by decide) _ (Fl.wb_len _ _)
end Go.Proofs.YtbanfkpfijcmcaaGreatDoor
