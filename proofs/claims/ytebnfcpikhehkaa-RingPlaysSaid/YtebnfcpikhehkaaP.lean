/- The plain law of a ring: what lies in its row. No program in sight. -/
import Derived.Laws.CopyOwn
namespace Go.Proofs.Ytebnfcpikhehkaa
set_option linter.unusedVariables false
set_option linter.unusedSimpArgs false

theorem mod_if (a C : Nat) (h : a < 2 * C) : a % C = if a < C then a else a - C := by
  split
  · exact Nat.mod_eq_of_lt (by assumption)
  · rw [Nat.mod_eq_sub_mod (by omega), Nat.mod_eq_of_lt (by omega)]

/-- The bytes that a ring has. -/
def rd (cs : List Int) (fr n : Nat) : List Int := (List.range n).map fun i => cs.getD ((fr + i) % cs.length) 0
/-- A row with bytes laid from a place on, round the end. -/
def wrt (cs : List Int) (p : Nat) (b : List Int) : List Int := (List.range cs.length).map fun j => if (j + cs.length - p % cs.length) % cs.length < b.length then b.getD ((j + cs.length - p % cs.length) % cs.length) 0 else cs.getD j 0
theorem rd_len (cs : List Int) (fr n : Nat) : (rd cs fr n).length = n := by simp [rd]
theorem wrt_len (cs : List Int) (p : Nat) (b : List Int) : (wrt cs p b).length = cs.length := by simp [wrt]
theorem rd_at (cs : List Int) (fr n i : Nat) (h : i < n) : (rd cs fr n).getD i 0 = cs.getD ((fr + i) % cs.length) 0 := by
  simp [rd, List.getD, h]
theorem wrt_at (cs : List Int) (p : Nat) (b : List Int) (j : Nat) (h : j < cs.length) : (wrt cs p b).getD j 0 = if (j + cs.length - p % cs.length) % cs.length < b.length then b.getD ((j + cs.length - p % cs.length) % cs.length) 0 else cs.getD j 0 := by
  simp [wrt, List.getD, h]
theorem ext_getD {a b : List Int} (hl : a.length = b.length) (h : ∀ i, i < a.length → a.getD i 0 = b.getD i 0) : a = b := by
  apply List.ext_getElem hl
  intro i h1 h2
  have := h i h1
  rw [List.getD_eq_getElem?_getD, List.getD_eq_getElem?_getD, List.getElem?_eq_getElem h1, List.getElem?_eq_getElem h2] at this
  exact this
theorem wrt_nil (cs : List Int) (p : Nat) : wrt cs p [] = cs := by
  apply ext_getD (wrt_len _ _ _)
  intro i hi
  rw [wrt_len] at hi
  rw [wrt_at _ _ _ _ hi, if_neg (by simp)]
theorem splice_at (L : List Int) (off : Nat) (cs : List Int) (j : Nat) (h : off + cs.length ≤ L.length) : (splice L off cs).getD j 0 = if off ≤ j ∧ j < off + cs.length then cs.getD (j - off) 0 else L.getD j 0 := by
  unfold splice
  rw [List.getD_eq_getElem?_getD, List.getElem?_append, List.length_take, Nat.min_eq_left (by omega)]
  by_cases h1 : j < off
  · rw [if_pos h1, if_neg (by omega), List.getElem?_take, if_pos h1, List.getD_eq_getElem?_getD]
  · rw [if_neg h1, List.getElem?_append]
    by_cases h2 : j - off < cs.length
    · rw [if_pos h2, if_pos (by omega), List.getD_eq_getElem?_getD]
    · rw [if_neg h2, if_neg (by omega), List.getElem?_drop, List.getD_eq_getElem?_getD]
      congr 2; omega
theorem append_at (a b : List Int) (j : Nat) : (a ++ b).getD j 0 = if j < a.length then a.getD j 0 else b.getD (j - a.length) 0 := by
  rw [List.getD_eq_getElem?_getD, List.getElem?_append]
  split <;> rw [List.getD_eq_getElem?_getD]
theorem wrt_step (cs : List Int) (p : Nat) (b1 b2 : List Int) (h1 : b1.length + b2.length ≤ cs.length) (h2 : (p + b1.length) % cs.length + b2.length ≤ cs.length) :
    splice (wrt cs p b1) ((p + b1.length) % cs.length) b2 = wrt cs p (b1 ++ b2) := by
  apply ext_getD
  · rw [length_splice _ _ _ (by rw [wrt_len]; omega), wrt_len, wrt_len]
  intro j hj
  rw [length_splice _ _ _ (by rw [wrt_len]; omega), wrt_len] at hj
  have hC : 0 < cs.length := by omega
  have hq : p % cs.length < cs.length := Nat.mod_lt _ hC
  rw [splice_at _ _ _ _ (by rw [wrt_len]; omega), wrt_at _ _ _ _ hj, wrt_at _ _ _ _ hj, append_at, List.length_append]
  rw [← Nat.mod_add_mod] at h2 ⊢
  generalize p % cs.length = q at *
  rw [mod_if (q + b1.length) _ (by omega)] at h2 ⊢
  rw [mod_if (j + cs.length - q) _ (by omega)]
  have hd : (if j + cs.length - q < cs.length then j + cs.length - q else j + cs.length - q - cs.length) = if j < q then j + cs.length - q else j - q := by split <;> split <;> omega
  rw [hd]
  generalize hat : (if q + b1.length < cs.length then q + b1.length else q + b1.length - cs.length) = at' at *
  generalize hdd : (if j < q then j + cs.length - q else j - q) = d at *
  have hA : (q + b1.length < cs.length ∧ at' = q + b1.length) ∨ (cs.length ≤ q + b1.length ∧ at' = q + b1.length - cs.length) := by
    rw [← hat]; split <;> omega
  have hD : (j < q ∧ d = j + cs.length - q) ∨ (q ≤ j ∧ d = j - q) := by
    rw [← hdd]; split <;> omega
  clear hat hdd hd
  have e1 : (at' ≤ j ∧ j < at' + b2.length) ↔ (b1.length ≤ d ∧ d < b1.length + b2.length) := by omega
  by_cases c : at' ≤ j ∧ j < at' + b2.length
  · have c' := e1.1 c
    rw [if_pos c, if_pos c'.2, if_neg (by omega)]
    congr 1
    omega
  · rw [if_neg c]
    by_cases c2 : d < b1.length
    · rw [if_pos c2, if_pos (by omega), if_pos c2]
    · rw [if_neg c2, if_neg (fun h => c (e1.2 ⟨by omega, h⟩))]
/-- What has come behind n bytes. -/
theorem rd_wrt (cs : List Int) (fr n : Nat) (b : List Int) (h : n + b.length ≤ cs.length) : rd (wrt cs (fr + n) b) fr (n + b.length) = rd cs fr n ++ b := by
  apply ext_getD
  · rw [rd_len, List.length_append, rd_len]
  intro i hi
  rw [rd_len] at hi
  have hC : 0 < cs.length := by omega
  rw [rd_at _ _ _ _ hi, wrt_len, wrt_at _ _ _ _ (Nat.mod_lt _ hC), append_at, rd_len]
  have hq : fr % cs.length < cs.length := Nat.mod_lt _ hC
  have e1 : (fr + i) % cs.length = (fr % cs.length + i) % cs.length := (Nat.mod_add_mod _ _ _).symm
  have e2 : (fr + n) % cs.length = (fr % cs.length + n) % cs.length := (Nat.mod_add_mod _ _ _).symm
  by_cases hin : i < n
  · rw [if_pos hin, rd_at _ _ _ _ hin]
    rw [if_neg]
    rw [e1, e2]
    generalize fr % cs.length = q at *
    rw [mod_if (q + i) _ (by omega), mod_if (q + n) _ (by omega)]
    split <;> split <;> (rw [mod_if _ _ (by omega)]; split <;> omega)
  · rw [if_neg hin]
    have e3 : ((fr + i) % cs.length + cs.length - (fr + n) % cs.length) % cs.length = i - n := by
      rw [e1, e2]
      generalize fr % cs.length = q at *
      rw [mod_if (q + i) _ (by omega), mod_if (q + n) _ (by omega)]
      split <;> split <;> (rw [mod_if _ _ (by omega)]; split <;> omega)
    rw [e3, if_pos (by omega)]
theorem rd_step (cs : List Int) (fr t l : Nat) (h : (fr + t) % cs.length + l ≤ cs.length) (hl : t + l ≤ cs.length) : rd cs fr (t + l) = rd cs fr t ++ (cs.drop ((fr + t) % cs.length)).take l := by
  apply ext_getD
  · rw [rd_len, List.length_append, rd_len, List.length_take, List.length_drop]; omega
  intro i hi
  rw [rd_len] at hi
  rw [rd_at _ _ _ _ hi, append_at, rd_len]
  by_cases c : i < t
  · rw [if_pos c, rd_at _ _ _ _ c]
  · rw [if_neg c]
    rw [List.getD_eq_getElem?_getD, List.getD_eq_getElem?_getD, List.getElem?_take, if_pos (by omega), List.getElem?_drop]
    congr 2
    have hC : 0 < cs.length := by omega
    have hq : fr % cs.length < cs.length := Nat.mod_lt _ hC
    rw [← Nat.mod_add_mod fr cs.length i]
    rw [← Nat.mod_add_mod fr cs.length t] at h ⊢
    generalize fr % cs.length = q at *
    rw [mod_if (q + i) _ (by omega)]
    rw [mod_if (q + t) _ (by omega)] at h ⊢
    split at * <;> split <;> omega
theorem rd_take (cs : List Int) (fr n k : Nat) (h : k ≤ n) : rd cs fr k = (rd cs fr n).take k := by
  unfold rd
  rw [← List.map_take]
  congr 1
  apply List.ext_getElem (by simp; omega)
  intro i h1 h2
  simp
theorem rd_drop (cs : List Int) (fr n k : Nat) (h : k ≤ n) (hn : n ≤ cs.length) (h0 : 0 < cs.length) : rd cs ((fr + k) % cs.length) (n - k) = (rd cs fr n).drop k := by
  apply ext_getD
  · rw [rd_len, List.length_drop, rd_len]
  intro i hi
  rw [rd_len] at hi
  rw [rd_at _ _ _ _ hi, List.getD_eq_getElem?_getD (l := List.drop _ _), List.getElem?_drop, ← List.getD_eq_getElem?_getD, rd_at _ _ _ _ (by omega), Nat.mod_add_mod, Nat.add_assoc]
theorem rd_nil (cs : List Int) (fr : Nat) : rd cs fr 0 = [] := rfl
theorem rd_mem (cs : List Int) (fr n : Nat) (P : Int → Prop) (h0 : P 0) (h : ∀ x ∈ cs, P x) : ∀ x ∈ rd cs fr n, P x := by
  intro x hx
  unfold rd at hx
  obtain ⟨i, _, rfl⟩ := List.mem_map.1 hx
  rw [List.getD_eq_getElem?_getD]
  cases e : cs[(fr + i) % cs.length]? with
  | none => exact h0
  | some y => exact h y (List.mem_of_getElem? e)
theorem wrt_mem (cs : List Int) (p : Nat) (b : List Int) (P : Int → Prop) (h0 : P 0) (h : ∀ x ∈ cs, P x) (hb : ∀ x ∈ b, P x) : ∀ x ∈ wrt cs p b, P x := by
  intro x hx
  unfold wrt at hx
  obtain ⟨i, _, rfl⟩ := List.mem_map.1 hx
  split
  · rw [List.getD_eq_getElem?_getD]
    cases e : b[(i + cs.length - p % cs.length) % cs.length]? with
    | none => exact h0
    | some y => exact hb y (List.mem_of_getElem? e)
  · rw [List.getD_eq_getElem?_getD]
    cases e : cs[i]? with
    | none => exact h0
    | some y => exact h y (List.mem_of_getElem? e)
/-- Another row, the bytes laid at its head. -/
theorem rd_head (L : List Int) (C : Nat) (h : L.length ≤ C) : rd (splice (List.replicate C 0) 0 L) 0 L.length = L := by
  apply ext_getD (rd_len _ _ _)
  intro i hi
  rw [rd_len] at hi
  have hls : (splice (List.replicate C (0 : Int)) 0 L).length = C := by rw [length_splice _ _ _ (by simp; omega)]; simp
  rw [rd_at _ _ _ _ hi, hls, Nat.zero_add, Nat.mod_eq_of_lt (by omega), splice_at _ _ _ _ (by simp; omega), if_pos ⟨by omega, by omega⟩, Nat.sub_zero]
theorem splice_mem {P : Int → Prop} (L : List Int) (off : Nat) (b : List Int) (h : ∀ x ∈ L, P x) (hb : ∀ x ∈ b, P x) : ∀ x ∈ splice L off b, P x := by
  intro x hx
  unfold splice at hx
  rcases List.mem_append.1 hx with h1 | h1
  · exact h x (List.mem_of_mem_take h1)
  · rcases List.mem_append.1 h1 with h2 | h2
    · exact hb x h2
    · exact h x (List.mem_of_mem_drop h2)

/-- The pieces that so many bytes have. -/
def pcsL (C fr n : Nat) : List (Nat × Nat) := if n = 0 then [] else if fr % C + n ≤ C then [(fr % C, n)] else [(fr % C, C - fr % C), (0, n - (C - fr % C))]
theorem pcsL_zero (C fr : Nat) : pcsL C fr 0 = [] := if_pos rfl
theorem pcsL_step (C fr n : Nat) (h0 : 0 < n) (hn : n ≤ C) : pcsL C fr n = (fr % C, min n (C - fr % C)) :: pcsL C (fr + min n (C - fr % C)) (n - min n (C - fr % C)) := by
  have hC : 0 < C := by omega
  have ha : fr % C < C := Nat.mod_lt _ hC
  unfold pcsL
  rw [if_neg (by omega)]
  by_cases h : fr % C + n ≤ C
  · rw [if_pos h, Nat.min_eq_left (by omega), Nat.sub_self, if_pos rfl]
  · have e : (fr + (C - fr % C)) % C = 0 := by
      rw [← Nat.mod_add_mod, show fr % C + (C - fr % C) = C by omega, Nat.mod_self]
    rw [if_neg h, Nat.min_eq_right (by omega), if_neg (by omega), e, if_pos (by omega)]
/-- How many bytes some pieces have. -/
def sm (l : List (Nat × Nat)) : Nat := (l.map (·.2)).sum
theorem sm_nil : sm [] = 0 := rfl
theorem sm_snoc (l : List (Nat × Nat)) (x : Nat × Nat) : sm (l ++ [x]) = sm l + x.2 := by simp [sm]
theorem sm_cons (l : List (Nat × Nat)) (x : Nat × Nat) : sm (x :: l) = x.2 + sm l := by simp [sm]
theorem pcsL_sum (C fr n : Nat) (hn : n ≤ C) : sm (pcsL C fr n) = n := by
  unfold pcsL
  split
  · simp [sm]; omega
  · split
    · simp [sm]
    · simp [sm]
      have := Nat.mod_lt fr (show 0 < C by omega)
      omega
theorem pcsL_pre (C : Nat) : ∀ (pre : List (Nat × Nat)) (fr n : Nat) (x : Nat × Nat), n ≤ C → pre ++ [x] <+: pcsL C fr n →
    sm pre < n ∧ x.1 = (fr + sm pre) % C ∧ x.1 < C ∧ x.2 = min (n - sm pre) (C - x.1) := by
  intro pre
  induction pre with
  | nil =>
    intro fr n x hn h
    have h0 : 0 < n := by
      rcases Nat.eq_zero_or_pos n with rfl | h'
      · rw [pcsL_zero] at h; simp at h
      · exact h'
    rw [pcsL_step C fr n h0 hn] at h
    simp at h
    subst h
    have := Nat.mod_lt fr (show 0 < C by omega)
    simp [sm]
    omega
  | cons y pre ih =>
    intro fr n x hn h
    have h0 : 0 < n := by
      rcases Nat.eq_zero_or_pos n with rfl | h'
      · rw [pcsL_zero] at h; simp at h
      · exact h'
    rw [pcsL_step C fr n h0 hn, List.cons_append] at h
    rw [List.cons_prefix_cons] at h
    obtain ⟨rfl, h2⟩ := h
    obtain ⟨g1, g2, g3, g4⟩ := ih _ _ _ (by omega) h2
    rw [sm_cons]
    simp only
    have := Nat.mod_lt fr (show 0 < C by omega)
    refine ⟨by omega, ?_, g3, ?_⟩
    · rw [g2, Nat.add_assoc]
    · rw [g4]; omega
end Go.Proofs.Ytebnfcpikhehkaa
