/- TraceParts: its lemmas. -/
import Derived.Test.YtbanfkpfijcmcaaGreatDoorAl
import Derived.Test.YtbanfkpfijcmcaaGreatDoorCp
import Derived.Test.YtbanfkpfijcmcaaGreatDoorCg
namespace Go.Proofs.YtbanfkpfijcmcaaGreatDoor
open Go.RowKit
set_option linter.unusedSimpArgs false
set_option linter.unusedVariables false
set_option maxRecDepth 100000

theorem cpl_app : ∀ (c a b : List En), cpl (c ++ a) (c ++ b) = c.length + cpl a b
  | [], a, b => by simp
  | x :: c, a, b => by
    rw [List.cons_append, List.cons_append, cpl, if_pos (oneF_self x), cpl_app c a b, List.length_cons]; omega
theorem one_symm (x y : En) : oneF x y = oneF y x := by
  rw [Bool.eq_iff_iff, oneF_iff, oneF_iff]; exact ⟨fun h => h.symm, fun h => h.symm⟩
theorem cpl_symm : ∀ (a b : List En), cpl a b = cpl b a
  | [], [] => rfl
  | [], b :: l => rfl
  | x :: a, [] => rfl
  | x :: a, y :: b => by rw [cpl, cpl, one_symm x y, cpl_symm a b]
theorem cpl_take : ∀ (a b : List En), cpl (a.take (cpl a b)) (b.take (cpl a b)) = cpl a b
  | [], b => by simp [cpl]
  | x :: a, [] => by simp [cpl]
  | x :: a, y :: b => by
    cases h : oneF x y
    · have : cpl (x :: a) (y :: b) = 0 := by rw [cpl, h]; rfl
      rw [this]; simp [cpl]
    · have e : cpl (x :: a) (y :: b) = cpl a b + 1 := by rw [cpl, if_pos h]
      rw [e, List.take_succ_cons, List.take_succ_cons, cpl, if_pos h, cpl_take a b]
theorem parts_neg {a b : List En} (h : partsF a b < 0) : cpl a b = a.length ∧ cpl a b = b.length := by
  unfold partsF at h
  split at h
  · assumption
  · omega
theorem parts_pos {a b : List En} (h : ¬ partsF a b < 0) : partsF a b = cpl a b ∧ ¬ (cpl a b = a.length ∧ cpl a b = b.length) := by
  unfold partsF at h ⊢
  split
  · rename_i e; rw [if_pos e] at h; omega
  · rename_i e; exact ⟨rfl, e⟩
theorem parts_app_neg {a b : List En} (c : List En) (h : partsF a b < 0) : partsF (c ++ a) (c ++ b) = -1 := by
  obtain ⟨h1, h2⟩ := parts_neg h
  unfold partsF
  rw [if_pos]
  rw [cpl_app, List.length_append, List.length_append]; omega
theorem parts_app_pos {a b : List En} (c : List En) (h : ¬ partsF a b < 0) : partsF (c ++ a) (c ++ b) = partsF a b + c.length := by
  obtain ⟨h1, h2⟩ := parts_pos h
  rw [h1]
  unfold partsF
  rw [if_neg, cpl_app]
  · omega
  · rw [cpl_app, List.length_append, List.length_append]; omega
theorem parts_symm (a b : List En) : partsF b a = partsF a b := by
  unfold partsF
  rw [cpl_symm b a]
  by_cases h : cpl a b = a.length ∧ cpl a b = b.length
  · rw [if_pos h, if_pos ⟨h.2, h.1⟩]
  · rw [if_neg h, if_neg (fun e => h ⟨e.2, e.1⟩)]
theorem same_neg {a b : List En} (h : partsF a b < 0) : sameF a b = true ∧ a.length = b.length := by
  obtain ⟨h1, h2⟩ := parts_neg h
  exact ⟨decide_eq_true ⟨h1, h2⟩, by omega⟩
theorem same_pos {a b : List En} (h : ¬ partsF a b < 0) : sameF a b = false := decide_eq_false (parts_pos h).2
theorem same_take (a b : List En) : sameF (a.take (cpl a b)) (b.take (cpl a b)) = true := by
  have := cpl_le a b
  refine decide_eq_true ?_
  rw [cpl_take, List.length_take, List.length_take]
  omega

/-- Entries that read as es, with what their cells hold. -/
theorem Rd.list {w : World} {v : Value} {es : List En} (h : Rd w v es) : ∃ (A : Option Addr) (c : Nat) (X : List Ex), v = .slice A es.length c ∧ ents X = es ∧ X.length = es.length ∧ (es.length ≤ c ∧ c ≤ maxLen) ∧ (∀ x ∈ X, DataAt w x.dv x.e.dt) ∧ ∀ W : World, Below w.heap.size w W → ∀ ad, A = some ad → ∀ j u, (flatX X)[j]? = some u → W.cell? (ad.add j) = some u := by
  obtain ⟨A, c, rfl, h1, h2, h3⟩ := h
  have : ∀ n, n ≤ es.length → ∃ X : List Ex, X.length = n ∧ ents X = es.take n ∧ (∀ x ∈ X, DataAt w x.dv x.e.dt) ∧ ∀ k x, X[k]? = some x → ∃ b off, A = some ⟨b, off, none⟩ ∧ ∀ W : World, Below w.heap.size w W → Two7 W b (off + k * 7) x := by
    intro n
    induction n with
    | zero => intro _; exact ⟨[], rfl, by simp [ents], by simp, by simp⟩
    | succ n ih =>
      intro hn
      obtain ⟨X, x1, x2, x3, x4⟩ := ih (by omega)
      obtain ⟨x, b, off, hx, hA, hd, hc⟩ := h3 n (by omega)
      refine ⟨X ++ [x], by simp [x1], by rw [List.take_add_one, hx, ← x2]; simp [ents], fun y hy => ?_, fun k y hy => ?_⟩
      · rcases List.mem_append.1 hy with hy | hy
        · exact x3 y hy
        · rw [List.mem_singleton.1 hy]; exact hd
      · by_cases hk : k < n
        · rw [List.getElem?_append_left (by omega)] at hy; exact x4 k y hy
        · have hk2 : k < (X ++ [x]).length := (List.getElem?_eq_some_iff.1 hy).1
          simp [x1] at hk2
          obtain rfl : k = n := by omega
          rw [List.getElem?_append_right (by omega), x1] at hy
          simp at hy
          subst hy
          exact ⟨b, off, hA, hc⟩
  obtain ⟨X, x1, x2, x3, x4⟩ := this es.length (Nat.le_refl _)
  rw [List.take_length] at x2
  refine ⟨A, c, X, rfl, x2, x1, ⟨h1, h2⟩, x3, fun W hW ad hA j u hj => ?_⟩
  have hj2 : j < (flatX X).length := (List.getElem?_eq_some_iff.1 hj).1
  rw [flatX_len] at hj2
  have hk : j / 7 < X.length := by omega
  obtain ⟨b, off, hA2, hc⟩ := x4 (j / 7) _ (List.getElem?_eq_getElem hk)
  rw [hA] at hA2
  injection hA2 with hA2
  subst hA2
  have hg := flatX_get X (j / 7) (j % 7) (by omega) _ (List.getElem?_eq_getElem hk)
  rw [show j / 7 * 7 + j % 7 = j by omega, hj] at hg
  obtain ⟨c0, c1, c2, c3, c4, c5, c6⟩ := hc W hW
  rw [add_plain]
  have hm : j % 7 < 7 := by omega
  have hjj : off + j = off + j / 7 * 7 + j % 7 := by omega
  rw [hjj, hg]
  generalize j % 7 = m at *
  match m, hm with
  | 0, _ => exact c0
  | 1, _ => exact c1
  | 2, _ => exact c2
  | 3, _ => exact c3
  | 4, _ => exact c4
  | 5, _ => exact c5
  | 6, _ => exact c6
theorem Rd.take {w : World} {A : Option Addr} {c : Nat} {es : List En} (h : Rd w (.slice A es.length c) es) (k : Nat) (hk : k ≤ es.length) : Rd w (.slice A k c) (es.take k) := by
  obtain ⟨A', c', e, h1, h2, h3⟩ := h
  injection e with e1 e2 e3
  subst e1 e3
  have hl : (es.take k).length = k := by rw [List.length_take]; omega
  refine ⟨A, c, by rw [hl], by omega, h2, fun j hj => ?_⟩
  rw [hl] at hj
  obtain ⟨x, b, off, hx, r⟩ := h3 j (by omega)
  exact ⟨x, b, off, by rw [List.getElem?_take_of_lt hj]; exact hx, r⟩
theorem flat_one {w : World} {X : List Ex} (h : ∀ x ∈ X, DataAt w x.dv x.e.dt) : ∀ u ∈ flatX X, u.oneCell' = true := by
  intro u hu
  obtain ⟨x, hx, hu⟩ := List.mem_flatMap.1 hu
  obtain ⟨A, c, e, -⟩ := h x hx
  simp only [encX, List.mem_cons, List.not_mem_nil, or_false] at hu
  rcases hu with rfl | rfl | rfl | rfl | rfl | rfl | rfl
  · rfl
  · rfl
  · rfl
  · rfl
  · rfl
  · rfl
  · rw [e]; rfl
theorem rd_own {w : World} {base : Nat} {v : Value} {n : Nat} {X : List Ex} (h : w.ownsRow base 28 7 v n (flatX X)) (hn : X.length = n) (hd : ∀ x ∈ X, DataAt w x.dv x.e.dt) : Rd w v (ents X) := by
  subst hn; exact Rd.of (ents_own h hd)
theorem elem22 : Tryz.prog.underlying 29 = some (.slice (Tryz.prog.elem 29)) := by kernel_rfl
theorem size22 (w : World) : (sizeOf (Tryz.prog.elem 29)).run Tryz.prog w = .ok 7 w := by
  have e : Tryz.prog.elem 29 = 28 := by kernel_rfl
  rw [e]
  have h5 : (Tryz.prog.info? 28).map (·.size) = some 7 := by kernel_rfl
  obtain ⟨i, hi, hs⟩ := Option.map_eq_some_iff.1 h5
  simp [sizeOf, typeInfo, hi, hs, go_sem]
theorem add_zero (a : Addr) : a.add 0 = a := by unfold Addr.add; rw [if_pos rfl]
theorem cut_any (A : Option Addr) (len cap n : Nat) (hn : n ≤ len) (hlc : len ≤ cap) (w : World) : (Instr.sliceAt 29 (.slice A len cap) none (some (.int .i64 (n : Int))) none).run Tryz.prog w = .ok (.slice A n cap) w := by
  rw [run_sliceAt_slice _ _ _ _ _ _ elem22, run_slice_h (w := w) 29 A len cap elem22 .i64 n (by omega) (by omega), size22]
  simp [Result.andThen, sliced]
  cases A with
  | none => simp
  | some a => simp [add_zero]
theorem zero_made (w : World) : (w.alloc (.cells #[] 28)).ownsRow w.heap.size 28 7 (.slice (some ⟨w.heap.size, 0, none⟩) 0 0) 0 [] :=
  World.ownsRow_made w #[] 0 (Nat.le_refl _) (Nat.zero_le _) rfl
end Go.Proofs.YtbanfkpfijcmcaaGreatDoor
