/- The reference's Text, plainly. -/
import Derived.Test.YtljfnfaljadjdaaDoorBk
namespace Go.Proofs.YtljfnfaljadjdaaDoor
open Go.RowKit
set_option linter.unusedSimpArgs false
set_option linter.unusedVariables false
set_option maxRecDepth 100000

theorem lst_pre (p : Nat → Bool) (j k : Nat) (h : j ≤ k) : ∃ r, lst p k = lst p j ++ r := by
  induction k with
  | zero => obtain rfl : j = 0 := by omega
            exact ⟨[], by simp⟩
  | succ k ih =>
    by_cases e : j = k + 1
    · subst e; exact ⟨[], by simp⟩
    · obtain ⟨r, hr⟩ := ih (by omega)
      cases hp : p k
      · exact ⟨r, by rw [lst_no p k hp, hr]⟩
      · exact ⟨r ++ [(k : Int)], by rw [lst_yes p k hp, hr, List.append_assoc]⟩
theorem lst_mono (p : Nat → Bool) (j k : Nat) (h : j ≤ k) : (lst p j).length ≤ (lst p k).length := by
  obtain ⟨r, hr⟩ := lst_pre p j k h
  rw [hr]; simp
/-- The next number behind those below pos. -/
theorem lst_next (p : Nat → Bool) : ∀ (d pos : Nat), pos + d = 64 → (lst p pos).length < (lst p 64).length →
    ∃ x, pos ≤ x ∧ x < 64 ∧ (lst p 64).getD (lst p pos).length 0 = (x : Int) ∧ p x = true ∧ (∀ j, pos ≤ j → j < x → p j = false) ∧ (lst p (x + 1)).length = (lst p pos).length + 1
  | 0, pos, h, hl => by
    obtain rfl : pos = 64 := by omega
    omega
  | d + 1, pos, h, hl => by
    cases hp : p pos
    · have e := lst_no p pos hp
      obtain ⟨x, h1, h2, h3, h4, h5, h6⟩ := lst_next p d (pos + 1) (by omega) (by rw [e]; exact hl)
      rw [e] at h3 h6
      refine ⟨x, by omega, h2, h3, h4, fun j hj hj2 => ?_, h6⟩
      by_cases ej : j = pos
      · rw [ej]; exact hp
      · exact h5 j (by omega) hj2
    · have e := lst_yes p pos hp
      obtain ⟨r, hr⟩ := lst_pre p (pos + 1) 64 (by omega)
      refine ⟨pos, Nat.le_refl _, by omega, ?_, hp, fun j _ _ => by omega, by rw [e]; simp⟩
      rw [hr, e]
      simp [List.getD]

theorem SK_stay (a b : Nat) (e y : Nat) (he : e ≤ y) (h : ∀ j, e ≤ j → j < y → hasN a b j = false) : SK a b y = SK a b e := by
  induction y with
  | zero => obtain rfl : e = 0 := by omega
            rfl
  | succ y ih =>
    by_cases ee : e = y + 1
    · rw [ee]
    · rw [SK, if_neg (by rw [h y (by omega) (by omega)]; decide)]
      exact ih (by omega) (fun j h1 h2 => h j h1 (by omega))
theorem SK_in (a b : Nat) (e y : Nat) (he : e ≤ y) (hy : y < 64) (h : ∀ j, e ≤ j → j ≤ y → hasN a b j = true) (hb : hasZ a b ((e : Int) - 1) = false) (hc : y < 63 → hasN a b (y + 1) = true) (hl : y ≠ 63) : SK a b (y + 1) = (e, (SK a b e).2) := by
  induction y with
  | zero =>
    obtain rfl : e = 0 := by omega
    rw [show SK a b (0 + 1) = if hasN a b 0 then stepT a b (SK a b 0) 0 else SK a b 0 from rfl, if_pos (h 0 (by omega) (by omega))]
    have h1 := hc (by omega)
    unfold stepT
    rw [hb, show ((0 : Nat) : Int) + 1 = ((1 : Nat) : Int) by omega, hasZ_n a b 1 (by omega), h1]
    rfl
  | succ y ih =>
    rw [SK, if_pos (h (y + 1) (by omega) (by omega))]
    have h1 := hc (by omega)
    unfold stepT
    rw [show ((y + 1 : Nat) : Int) + 1 = ((y + 1 + 1 : Nat) : Int) by omega, hasZ_n a b (y + 1 + 1) (by omega), h1]
    by_cases ee : e = y + 1
    · subst ee; rw [hb]; simp
    · rw [show ((y + 1 : Nat) : Int) - 1 = ((y : Nat) : Int) by omega, hasZ_n a b y (by omega), h y (by omega) (by omega), ih (by omega) (by omega) (fun j h1 h2 => h j h1 (by omega)) (fun _ => h (y + 1) (by omega) (by omega)) (by omega)]
      simp
/-- A whole run. -/
theorem SK_run (a b : Nat) (e y : Nat) (he : e ≤ y) (hy : y < 64) (h : ∀ j, e ≤ j → j ≤ y → hasN a b j = true) (hb : hasZ a b ((e : Int) - 1) = false) (hc : hasZ a b ((y : Int) + 1) = false) : (SK a b (y + 1)).2 = (SK a b e).2 ++ [runS e y] := by
  rw [SK, if_pos (h y he (by omega))]
  unfold stepT
  rw [hc]
  by_cases ee : e = y
  · subst ee; rw [hb]; simp
  · obtain ⟨z, rfl⟩ : ∃ z, y = z + 1 := ⟨y - 1, by omega⟩
    rw [show ((z + 1 : Nat) : Int) - 1 = ((z : Nat) : Int) by omega, hasZ_n a b z (by omega), h z (by omega) (by omega), SK_in a b e z (by omega) (by omega) (fun j h1 h2 => h j h1 (by omega)) hb (fun _ => h (z + 1) (by omega) (by omega)) (by omega)]
    simp
theorem SK_small (a b : Nat) : ∀ k, k ≤ 64 → ((SK a b k).1 < 64 ∧ (SK a b k).2.length ≤ k ∧ ∀ y ∈ (SK a b k).2, y.size ≤ 5)
  | 0, _ => ⟨Nat.succ_pos _, Nat.le_refl _, by simp [SK]⟩
  | k + 1, h => by
    obtain ⟨h1, h2, h3⟩ := SK_small a b k (by omega)
    rw [SK]
    split
    · unfold stepT
      dsimp only
      refine ⟨by split <;> omega, ?_, ?_⟩
      · split
        · omega
        · simp; omega
      · split
        · exact h3
        · intro y hy
          rcases List.mem_append.1 hy with hy | hy
          · exact h3 y hy
          · rw [List.mem_singleton.1 hy]
            exact runS_size _ _ (by split <;> omega) (by omega)
    · exact ⟨h1, by omega, h3⟩
/-- What is written when the numbers below k are done. -/
def JS (a b k : Nat) : ByteArray := ⟨(Lib.join ((SK a b k).2.map (·.data.toList)) [44]).toArray⟩
theorem JS_size (a b k : Nat) (h : k ≤ 64) : (JS a b k).size ≤ 384 := by
  obtain ⟨_, h1, h2⟩ := SK_small a b k h
  have h3 := join_len [44] ((SK a b k).2.map (·.data.toList)) 5 (fun x hx => by
    obtain ⟨y, hy, rfl⟩ := List.mem_map.1 hx
    have := h2 y hy
    show y.data.toList.length ≤ 5
    rw [Array.length_toList]
    exact this)
  unfold JS
  rw [mk_size]
  simp only [List.length_map, List.length_cons, List.length_nil] at h3
  omega
theorem joinTail_snoc (sep : List UInt8) (r : List (List UInt8)) (z : List UInt8) : Lib.joinTail sep (r ++ [z]) = Lib.joinTail sep r ++ (sep ++ z) := by
  unfold Lib.joinTail
  simp
theorem join_snoc (sep : List UInt8) (r : List (List UInt8)) (z : List UInt8) (h : r ≠ []) : Lib.join (r ++ [z]) sep = Lib.join r sep ++ (sep ++ z) := by
  cases r with
  | nil => exact absurd rfl h
  | cons x r => rw [List.cons_append, Lib.join_cons, Lib.join_cons, joinTail_snoc, List.append_assoc]
/-- Where the outer loop stands. -/
structure Pos (a b i pos : Nat) : Prop where
  le : pos ≤ 64
  len : (lst (hasN a b) pos).length = i
  z : pos = 0 ∨ hasZ a b (pos : Int) = false
  emp : (SK a b pos).2 = [] ↔ i = 0
theorem Pos.start (a b : Nat) : Pos a b 0 0 := ⟨by omega, rfl, .inl rfl, by simp [SK]⟩
/-- The run's begin. -/
theorem Pos.next {a b i pos : Nat} (h : Pos a b i pos) (hi : i < (L a b).length) : ∃ x : Nat, x < 64 ∧ (L a b).getD i 0 = (x : Int) ∧ hasN a b x = true ∧ hasZ a b ((x : Int) - 1) = false ∧ JS a b x = JS a b pos ∧ (SK a b x).2 = (SK a b pos).2 ∧ (lst (hasN a b) (x + 1)).length = i + 1 := by
  obtain ⟨x, h1, h2, h3, h4, h5, h6⟩ := lst_next (hasN a b) (64 - pos) pos (by have := h.le; omega) (by rw [h.len]; exact hi)
  rw [h.len] at h3 h6
  have hs := SK_stay a b pos x h1 h5
  refine ⟨x, h2, h3, h4, ?_, by unfold JS; rw [hs], by rw [hs], h6⟩
  by_cases e : x = 0
  · subst e; rfl
  · rw [show (x : Int) - 1 = ((x - 1 : Nat) : Int) by omega]
    by_cases e2 : x = pos
    · rcases h.z with hz | hz
      · omega
      · rw [e2.symm, hasZ_n a b x h2, h4] at hz; cases hz
    · rw [hasZ_n a b _ (by omega)]
      exact h5 (x - 1) (by omega) (by omega)
/-- Within a run. -/
structure InR (a b x i k y : Nat) : Prop where
  le : x ≤ y
  lt : y < 64
  all : ∀ j, x ≤ j → j ≤ y → hasN a b j = true
  len : (lst (hasN a b) (y + 1)).length = k + 1
  k : k = i + (y - x)
theorem InR.start {a b i x : Nat} (hx : x < 64) (hh : hasN a b x = true) (hl : (lst (hasN a b) (x + 1)).length = i + 1) : InR a b x i i x :=
  ⟨Nat.le_refl _, hx, fun j h1 h2 => by rw [show j = x by omega]; exact hh, hl, by omega⟩
theorem InR.val {a b x i k y : Nat} (h : InR a b x i k y) : k < (L a b).length ∧ (L a b).getD k 0 = (y : Int) := by
  obtain ⟨r, hr⟩ := lst_pre (hasN a b) (y + 1) 64 (by have := h.lt; omega)
  have e := lst_yes (hasN a b) y (h.all y h.le (Nat.le_refl _))
  have hl := h.len
  rw [e] at hl hr
  have hl2 : (lst (hasN a b) y).length = k := by simpa using hl
  unfold L
  rw [hr]
  constructor
  · simp; omega
  · rw [← hl2]; simp [List.getD]
theorem InR.step {a b x i k y : Nat} (h : InR a b x i k y) (hk : k + 1 < (L a b).length) (he : (L a b).getD (k + 1) 0 = (L a b).getD k 0 + 1) : InR a b x i (k + 1) (y + 1) := by
  obtain ⟨z, h1, h2, h3, h4, h5, h6⟩ := lst_next (hasN a b) (64 - (y + 1)) (y + 1) (by have := h.lt; omega) (by rw [h.len]; exact hk)
  rw [h.len] at h3 h6
  have hz : (z : Int) = (y : Int) + 1 := by
    rw [h.val.2] at he
    exact h3.symm.trans he
  obtain rfl : z = y + 1 := by omega
  refine ⟨by have := h.le; omega, h2, fun j j1 j2 => ?_, h6, by have := h.k; have := h.le; omega⟩
  by_cases e : j = y + 1
  · rw [e]; exact h4
  · exact h.all j j1 (by omega)
/-- The run's end. -/
theorem InR.stop {a b x i k y pos : Nat} (h : InR a b x i k y) (P : Pos a b i pos) (hS : (SK a b x).2 = (SK a b pos).2) (hb : hasZ a b ((x : Int) - 1) = false) (he : k + 1 < (L a b).length → (L a b).getD (k + 1) 0 ≠ (L a b).getD k 0 + 1) :
    Pos a b (k + 1) (y + 1) ∧ (JS a b (y + 1)).data.toList = (if i = 0 then (runS x y).data.toList else (JS a b pos).data.toList ++ (44 :: (runS x y).data.toList)) := by
  have hz : hasZ a b ((y : Int) + 1) = false := by
    cases hz : hasZ a b ((y : Int) + 1)
    · rfl
    · exfalso
      unfold hasZ at hz
      split at hz
      · rename_i hq
        rw [show ((y : Int) + 1).toNat = y + 1 by omega] at hz
        have e := lst_yes (hasN a b) (y + 1) hz
        have e1 : (lst (hasN a b) (y + 1 + 1)).length = k + 2 := by rw [e]; simp [h.len]
        have e2 := lst_mono (hasN a b) (y + 1 + 1) 64 (by omega)
        have hk : k + 1 < (L a b).length := by unfold L; omega
        refine he hk ?_
        obtain ⟨r, hr⟩ := lst_pre (hasN a b) (y + 1 + 1) 64 (by omega)
        rw [h.val.2]
        unfold L
        rw [hr, e]
        have hl := h.len
        rw [List.append_assoc, List.getD, List.getElem?_append_right (by omega), hl]
        simp
      · cases hz
  have hr := SK_run a b x y h.le h.lt h.all hb hz
  rw [hS] at hr
  refine ⟨⟨by have := h.lt; omega, h.len, .inr (by rw [show ((y + 1 : Nat) : Int) = (y : Int) + 1 by omega]; exact hz), by rw [hr]; simp⟩, ?_⟩
  show (Lib.join ((SK a b (y + 1)).2.map (·.data.toList)) [44]) = _
  rw [hr, List.map_append]
  by_cases e : i = 0
  · rw [if_pos e, P.emp.2 e]
    simp [Lib.join_one]
  · rw [if_neg e]
    have hne : (SK a b pos).2 ≠ [] := fun h => e (P.emp.1 h)
    rw [List.map_cons, List.map_nil, join_snoc _ _ _ (by simpa using hne)]
    rfl
theorem Pos.done {a b i pos : Nat} (h : Pos a b i pos) (hi : (L a b).length ≤ i) : JS a b pos = JS a b 64 := by
  unfold JS
  rw [SK_stay a b pos 64 h.le (fun j h1 h2 => by
    cases hj : hasN a b j
    · rfl
    · exfalso
      have e := lst_yes (hasN a b) j hj
      have e1 := lst_mono (hasN a b) pos j h1
      have e2 := lst_mono (hasN a b) (j + 1) 64 (by omega)
      rw [e] at e2
      have := h.len
      unfold L at hi
      simp at e2
      omega)]
theorem L_nil (a b : Nat) (ha : a < 4294967296) (hb : b < 4294967296) (h : (L a b).length = 0) : a = 0 ∧ b = 0 := by
  refine set_ext a b 0 0 ha hb (by decide) (by decide) (fun i hi => ?_)
  rw [has_zero]
  cases hh : hasN a b i
  · rfl
  · have : (i : Int) ∈ L a b := (mem_lst _ _ _).2 ⟨i, hi, hh, rfl⟩
    rw [List.length_eq_zero_iff.1 h] at this
    cases this
theorem textL_JS (a b : Nat) (ha : a < 4294967296) (hb : b < 4294967296) (h : (L a b).length ≠ 0) : (⟨(textL a b).toArray⟩ : ByteArray) = JS a b 64 := by
  unfold textL
  rw [if_neg, stT_SK]
  · rfl
  · intro hc
    have h1 : a = 0 ∧ b = 0 := by simpa using hc
    rw [h1.1, h1.2, L_zero] at h
    exact h rfl
end Go.Proofs.YtljfnfaljadjdaaDoor
