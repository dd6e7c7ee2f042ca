/- Parse, plainly: what a text says. -/
import Derived.Test.YtljfnfaljadjdaaDoorNo
import Derived.Lib.SplitLaws
namespace Go.Proofs.YtljfnfaljadjdaaDoor
open Go.RowKit
set_option linter.unusedSimpArgs false
set_option linter.unusedVariables false
set_option maxRecDepth 100000

def pcs (s : ByteArray) : List ByteArray := Lib.splitB ⟨#[44]⟩ 0 (Lib.countB s ⟨#[44]⟩) s
theorem pcs_len (s : ByteArray) : (pcs s).length = Lib.countB s ⟨#[44]⟩ + 1 := Lib.splitB_all _ (by decide) 0 _ s rfl
theorem pcs_le (s : ByteArray) : (pcs s).length ≤ s.size + 1 := by
  rw [pcs_len]
  have := Lib.countB_le ⟨#[44]⟩ (by decide) s.size s (Nat.le_refl _)
  omega
theorem splitB_size (sep : ByteArray) : ∀ (k : Nat) (s x : ByteArray), x ∈ Lib.splitB sep 0 k s → x.size ≤ s.size
  | 0, s, x, h => by rw [Lib.splitB_zero] at h; simp at h; rw [h]; exact Nat.le_refl _
  | k + 1, s, x, h => by
    unfold Lib.splitB at h
    split at h
    · simp at h; rw [h]; exact Nat.le_refl _
    · rcases List.mem_cons.1 h with rfl | h
      · rw [ByteArray.size_extract]; omega
      · have := splitB_size sep k _ x h
        rw [ByteArray.size_extract] at this
        omega
theorem pcs_size (s x : ByteArray) (h : x ∈ pcs s) : x.size ≤ s.size := splitB_size _ _ _ _ h
theorem made_cell (w : World) (l : List ByteArray) (i : Nat) (h : i < l.length) : (w.alloc (.cells (l.map Value.string).toArray 9)).cell? ⟨w.heap.size, i, none⟩ = some (.string (l.getD i ByteArray.empty)) := by
  have : (w.alloc (.cells (l.map Value.string).toArray 9)).heap[w.heap.size]? = some (.cells (l.map Value.string).toArray 9) := World.alloc_heap_new w _
  unfold World.cell?
  simp only [this]
  simp [h, List.getD]

def cutA (r : ByteArray) : ByteArray := ⟨(Lib.cut r.data.toList [45]).1.toArray⟩
def cutB (r : ByteArray) : ByteArray := ⟨(Lib.cut r.data.toList [45]).2.1.toArray⟩
def cutM (r : ByteArray) : Bool := (Lib.cut r.data.toList [45]).2.2
def toB (r : ByteArray) : ByteArray := if cutM r then cutB r else cutA r
theorem cut_len (l sep : List UInt8) : (Lib.cut l sep).1.length ≤ l.length ∧ (Lib.cut l sep).2.1.length ≤ l.length := by
  unfold Lib.cut
  split
  · exact ⟨by rw [List.length_take]; omega, by rw [List.length_drop]; omega⟩
  · exact ⟨Nat.le_refl _, Nat.zero_le _⟩
theorem mk_size (l : List UInt8) : (⟨l.toArray⟩ : ByteArray).size = l.length := List.size_toArray
theorem list_size (r : ByteArray) : r.data.toList.length = r.size := Array.length_toList
theorem cutA_size (r : ByteArray) : (cutA r).size ≤ r.size := by
  unfold cutA
  rw [mk_size, ← list_size r]
  exact (cut_len _ _).1
theorem cutB_size (r : ByteArray) : (cutB r).size ≤ r.size := by
  unfold cutB
  rw [mk_size, ← list_size r]
  exact (cut_len _ _).2
theorem toB_size (r : ByteArray) : (toB r).size ≤ r.size := by
  unfold toB
  split
  · exact cutB_size r
  · exact cutA_size r
def pairO (r : ByteArray) : Option (Nat × Nat) := match numO (cutA r), numO (toB r) with
  | some x, some y => some (x, y)
  | _, _ => none
def adR (p : Nat × Nat) (x n : Nat) : Nat × Nat := (List.range' x n).foldl (fun p k => (wiA p.1 k, wiB p.2 k)) p
theorem adR_zero (p : Nat × Nat) (x : Nat) : adR p x 0 = p := rfl
theorem adR_succ (p : Nat × Nat) (x n : Nat) : adR p x (n + 1) = (wiA (adR p x n).1 (x + n), wiB (adR p x n).2 (x + n)) := by
  unfold adR
  rw [List.range'_1_concat, List.foldl_append]
  rfl
theorem adR_lt (p : Nat × Nat) (x n : Nat) (h1 : p.1 < 4294967296) (h2 : p.2 < 4294967296) (h : x + n ≤ 64) : (adR p x n).1 < 4294967296 ∧ (adR p x n).2 < 4294967296 := by
  induction n with
  | zero => exact ⟨h1, h2⟩
  | succ n ih =>
    rw [adR_succ]
    exact ⟨wi_lt _ _ (ih (by omega)).1 (by omega), wi_lt' _ _ (ih (by omega)).2 (by omega)⟩
def stepP (o : Option (Nat × Nat)) (r : ByteArray) : Option (Nat × Nat) := match o with
  | none => none
  | some p => match pairO r with
    | none => none
    | some q => some (adR p q.1 (q.2 + 1 - q.1))
def foldP (l : List ByteArray) : Option (Nat × Nat) := l.foldl stepP (some (0, 0))
theorem foldP_take (l : List ByteArray) (k : Nat) (hk : k < l.length) : foldP (l.take (k + 1)) = stepP (foldP (l.take k)) (l.getD k ByteArray.empty) := by
  unfold foldP
  rw [List.take_add_one, List.foldl_append]
  simp [List.getD, hk]
theorem foldl_none (l : List ByteArray) : l.foldl stepP none = none := by
  induction l with
  | nil => rfl
  | cons x l ih => exact ih
theorem foldP_stop (l : List ByteArray) (k : Nat) (h : foldP (l.take k) = none) : foldP l = none := by
  unfold foldP at h ⊢
  rw [← List.take_append_drop k l, List.foldl_append, h]
  exact foldl_none _
/-- What a text says: a set's two words, or none. -/
def parseF (s : ByteArray) : Option (Nat × Nat) :=
  if s.data.toList = [110, 111, 110, 101] then some (0, 0) else match foldP (pcs s) with
    | none => none
    | some p => if textL p.1 p.2 = s.data.toList then some p else none
theorem pairO_lt {r : ByteArray} {x y : Nat} (h : pairO r = some (x, y)) : numO (cutA r) = some x ∧ numO (toB r) = some y ∧ x < 64 ∧ y < 64 := by
  unfold pairO at h
  cases ha : numO (cutA r) with
  | none => rw [ha] at h; cases h
  | some x' =>
    cases hb : numO (toB r) with
    | none => rw [ha, hb] at h; cases h
    | some y' =>
      rw [ha, hb] at h
      injection h with h
      injection h with e1 e2
      subst e1 e2
      exact ⟨rfl, rfl, (numO_some ha).1, (numO_some hb).1⟩
theorem pairO_none {r : ByteArray} (h : pairO r = none) : numO (cutA r) = none ∨ numO (toB r) = none := by
  unfold pairO at h
  cases ha : numO (cutA r) with
  | none => exact .inl rfl
  | some x' =>
    cases hb : numO (toB r) with
    | none => exact .inr rfl
    | some y' => rw [ha, hb] at h; cases h
end Go.Proofs.YtljfnfaljadjdaaDoor
