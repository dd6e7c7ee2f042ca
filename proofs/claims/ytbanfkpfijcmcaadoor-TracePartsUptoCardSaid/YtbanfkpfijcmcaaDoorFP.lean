/- The mask that words say: the plain part. -/
import Derived.Test.YtbanfkpfijcmcaaDoorFN
import Derived.Lib.Split
import Derived.Lib.SlicesS
namespace Go.Proofs.YtbanfkpfijcmcaaDoor.Fl
open Go.RowKit
set_option linter.unusedSimpArgs false
set_option linter.unusedVariables false
set_option maxRecDepth 100000

/-- A table's words. -/
def tw (T : Nat) : List ByteArray := (wl.drop (T * 6)).take (nT T)
/-- A piece's bit, besides others. -/
def pstep (T : Nat) (m : Nat) (x : ByteArray) : Nat := if 0 ≤ sidx x 0 (tw T) then m ||| 2 ^ (sidx x 0 (tw T)).toNat else m
def pm (T : Nat) (l : List ByteArray) : Nat := l.foldl (pstep T) 0
/-- The pieces between the plus signs. -/
def pcs (s : ByteArray) : List ByteArray := Lib.splitB ⟨#[43]⟩ 0 (Lib.countB s ⟨#[43]⟩) s

theorem beq_data (a b : ByteArray) : (a.toList == b.toList) = (a.data.toList == b.data.toList) := by
  rw [Bool.eq_iff_iff, Lib.bytes_beq_iff, beq_iff_eq]
  exact ⟨fun h => by rw [h], fun h => WideShapes.bytes_inj h⟩
def lidx (s : List UInt8) : Nat → List (List UInt8) → Int
  | _, [] => -1
  | k, x :: xs => if s == x then (k : Int) else lidx s (k + 1) xs
theorem sidx_data (s : ByteArray) (l : List ByteArray) (k : Nat) : sidx s k l = lidx s.data.toList k (l.map (·.data.toList)) := by
  induction l generalizing k with
  | nil => rfl
  | cons x l ih =>
    rw [sidx, List.map_cons, lidx, beq_data, ih]
def pstepL (T : Nat) (m : Nat) (x : List UInt8) : Nat := if 0 ≤ lidx x 0 ((tw T).map (·.data.toList)) then m ||| 2 ^ (lidx x 0 ((tw T).map (·.data.toList))).toNat else m
theorem pm_data (T : Nat) (l : List ByteArray) : pm T l = (l.map (·.data.toList)).foldl (pstepL T) 0 := by
  unfold pm
  rw [List.foldl_map]
  congr 1
  funext m x
  unfold pstep pstepL
  rw [sidx_data]
theorem back0 : ∀ k : Fin 64, (Lib.split (txL 0 (k.val : Int)) [43]).foldl (pstepL 0) 0 = k.val := by decide +kernel
theorem back1 : ∀ k : Fin 16, (Lib.split (txL 1 (k.val : Int)) [43]).foldl (pstepL 1) 0 = k.val := by decide +kernel
theorem pcs_data (s : ByteArray) : (pcs s).map (·.data.toList) = Lib.split s.data.toList [43] := by
  unfold pcs Lib.split
  rw [Lib.splitB_data]
theorem pm_back (T : Nat) (hT : T < 2) (s : ByteArray) (k : Nat) (hk : k < 2 ^ nT T) (h : txL T (k : Int) = s.data.toList) : pm T (pcs s) = k := by
  rw [pm_data, pcs_data, ← h]
  rcases (show T = 0 ∨ T = 1 by omega) with rfl | rfl
  · exact back0 ⟨k, hk⟩
  · exact back1 ⟨k, hk⟩

theorem sidx_lt (s : ByteArray) (l : List ByteArray) (k : Nat) : sidx s k l < (k + l.length : Nat) := by
  induction l generalizing k with
  | nil => simp [sidx]; omega
  | cons x l ih =>
    rw [sidx]
    split
    · simp only [List.length_cons]; omega
    · have := ih (k + 1); simp only [List.length_cons]; omega
theorem tw_len (T : Nat) (hT : T < 2) : (tw T).length = nT T := by
  rcases (show T = 0 ∨ T = 1 by omega) with rfl | rfl <;> rfl
theorem pstep_lt (T m : Nat) (hT : T < 2) (x : ByteArray) (hm : m < 2 ^ nT T) : pstep T m x < 2 ^ nT T := by
  unfold pstep
  split
  · rename_i h
    have := sidx_lt x (tw T) 0
    rw [tw_len T hT] at this
    exact Nat.or_lt_two_pow hm (Nat.pow_lt_pow_right (by decide) (by omega))
  · exact hm
theorem foldl_lt (T : Nat) (hT : T < 2) (l : List ByteArray) (m : Nat) (hm : m < 2 ^ nT T) : l.foldl (pstep T) m < 2 ^ nT T := by
  induction l generalizing m with
  | nil => exact hm
  | cons x l ih => exact ih _ (pstep_lt T m hT x hm)
theorem pm_lt (T : Nat) (hT : T < 2) (l : List ByteArray) : pm T l < 2 ^ nT T := foldl_lt T hT l 0 (Nat.two_pow_pos _)
theorem pm_take (T : Nat) (l : List ByteArray) (k : Nat) (hk : k < l.length) : pm T (l.take (k + 1)) = pstep T (pm T (l.take k)) l[k] := by
  unfold pm
  rw [List.take_succ_eq_append_getElem hk, List.foldl_append]
  rfl

/-- What parse answers. -/
def paR (T : Nat) (s : ByteArray) : Int := if txL T (pm T (pcs s) : Nat) = s.data.toList then (pm T (pcs s) : Nat) else 0
def paE (T : Nat) (s : ByteArray) : Int := if txL T (pm T (pcs s) : Nat) = s.data.toList then 0 else 50
def RP (T : Nat) (s : ByteArray) (w : World) (e : Ending) (w' : World) : Prop := e = .returned (.tuple #[.int .i64 (paR T s), .int .i64 (paE T s)]) ∧ Below w.heap.size w w'
/-- It is the mask whose words they are, or there is none. -/
theorem pa_cases (T : Nat) (hT : T < 2) (s : ByteArray) : (∃ k : Nat, k < 2 ^ nT T ∧ txL T (k : Int) = s.data.toList ∧ paR T s = k ∧ paE T s = 0 ∧ ∀ j : Nat, j < 2 ^ nT T → txL T (j : Int) = s.data.toList → j = k) ∨ ((∀ k : Nat, k < 2 ^ nT T → txL T (k : Int) ≠ s.data.toList) ∧ paR T s = 0 ∧ paE T s = 50) := by
  by_cases h : txL T (pm T (pcs s) : Nat) = s.data.toList
  · exact .inl ⟨_, pm_lt T hT _, h, if_pos h, if_pos h, fun j hj e => (pm_back T hT s j hj e).symm⟩
  · refine .inr ⟨fun k hk e => h ?_, if_neg h, if_neg h⟩
    rw [pm_back T hT s k hk e]; exact e
end Go.Proofs.YtbanfkpfijcmcaaDoor.Fl
